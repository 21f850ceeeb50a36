/- The functions that the law reaches, as plain functions, each with its contract: printed by a program of the prover's. No conditions: lemmas. -/
import Derived.Test.YtopecknfnhocpaaProg
import Derived.Test.YtopecknfnhocpaaGH
set_option linter.unusedVariables false
set_option linter.unusedSimpArgs false
namespace Go.Proofs.Ytopecknfnhocpaa
open Go Go.Proofs.GL
abbrev KS99 := (Kd.pair KI (Kd.sl KI))
abbrev OS99 : Ow KS99 := (Ow.pair OI (Ow.sl OI 3))
abbrev OL99 : Ow KS99 := (Ow.pair OI (Ow.lent (Kd.sl KI)))
theorem tI3 : TI Try.prog 3 (.int .i64 0) 1 8 := by unfold TI; kernel_rfl
theorem tI22 : TI Try.prog 22 (.slice none 0 0) 1 24 := by unfold TI; kernel_rfl
theorem tI40 : TI Try.prog 40 (.slice none 0 0) 1 24 := by unfold TI; kernel_rfl
theorem tI99 : TI Try.prog 99 (.agg #[.int .i64 0, .slice none 0 0]) 2 32 := by unfold TI; kernel_rfl
theorem hMix : Try.prog.follows .mixedOrders = true := by kernel_rfl
def laws_toIntS.l1 (p0 : List (Int)) : Nat → (List (Int)) → Int → Option (List (Int))
  | 0, _, _ => none
  | kf + 1, x41, x42 => if (decide (x42 < (p0.length : Int))) = true then ((rd? p0 x42).bind fun u57 => (rd? x41 x42).bind fun u58 => (st? x41 x42 u57).bind fun x59 => laws_toIntS.l1 p0 kf x59 (IntKind.i64.wrap (x42 + 1))) else (some x41)
def laws_toIntS.f (p0 : List (Int)) : Option (List (Int)) := (mk? 17592186044416 0 (p0.length : Int)).bind fun x3 => (laws_toIntS.l1 p0 ((((p0.length : Int)) - (0)).toNat + 2) x3 0).bind fun (o : (List (Int))) => match o with | x33 => (some x33)
def laws_toIntS.post (sb s : St) (F0 : Fp) (r : (List (Int))) : Value → St → Prop := fun v s' => ∃ (A0 : Option Addr) (c0 : Nat), v = .slice A0 r.length c0 ∧ Hp sb s F0 s' [Ck.ol OI 3 A0 c0 r]
set_option maxRecDepth 100000 in
set_option maxHeartbeats 4000000 in
theorem laws_toIntS.ok (sb s : St) (F0 : Fp) (A0p : Option Addr) (c0p : Nat) (p0 : List (Int)) (HRp0 : Rd KI sb A0p c0p p0) (hH : Hp sb s F0 s []) (r : (List (Int))) (H : laws_toIntS.f p0 = some r) : GCall Try.prog 16 #[.slice A0p p0.length c0p] s (laws_toIntS.post sb s F0 r) := by
  refine GCall_ofk [.tmp 2] [.slice A0p p0.length c0p, undef, undef, undef, undef, undef, undef, undef, undef, undef, undef, undef, undef, undef, undef, undef, undef, undef, undef, undef, undef, undef] Try.func16 rfl rfl rfl ?_
  intro w Q hQr hQn hQp
  replace H := topE H
  unfold laws_toIntS.f at H
  refine HT_seq_k ?_
  intro K1 hK1
  refine HT_region ?_
  refine HL_cons rfl ?_
  refine o_assign ?_
  try dsimp only [putL, setL, evL, getL]
  refine HL_nil ?_
  refine hK1 _ _ ?_
  refine HT_seq_k ?_
  intro K2 hK2
  refine HT_region ?_
  refine HL_cons rfl ?_
  refine o_move ?_
  try dsimp only [putL, setL, evL, getL]
  refine HL_cons rfl ?_
  refine o_len rfl Try.underlying22 ?_
  try dsimp only [putL, setL, evL, getL]
  obtain ⟨x3, hx3, H⟩ := headE H
  refine HL_cons rfl ?_
  refine o_makeH (K := KI) (O := OI) (x0 := 0) hH rfl Try.underlying22 tI3 rfl (by decide) (by decide) (by decide) (Own0.fl fun _ => rfl) hx3 ?_
  intro A3 c3 s3 hH' hG
  replace hH : Hp sb s F0 s3 [Ck.ol OI 3 A3 c3 x3] := hH'
  clear hH' hG
  try dsimp only [putL, setL, evL, getL]
  refine HL_cons rfl ?_
  refine o_assign ?_
  try dsimp only [putL, setL, evL, getL]
  refine HL_nil ?_
  refine hK2 _ _ ?_
  refine HT_seq_k ?_
  intro K4 hK4
  refine HT_seq_k ?_
  intro K5 hK5
  refine HT_region ?_
  refine HL_cons rfl ?_
  refine o_assign ?_
  try dsimp only [putL, setL, evL, getL]
  refine HL_nil ?_
  refine hK5 _ _ ?_
  refine joinH H fun G6 hG6 H => ?_
  refine HT_toK (fun l' s' => ∃ (x33 : List (Int)), G6 x33 = some r ∧ l' = [.slice A0p p0.length c0p, undef, .slice none 0 0, .slice A3 x3.length c3, getL l' 4, .slice A0p p0.length c0p, .int .i64 (p0.length : Int), .slice A3 x3.length c3, getL l' 8, getL l' 9, getL l' 10, getL l' 11, getL l' 12, getL l' 13, getL l' 14, getL l' 15, getL l' 16, getL l' 17, getL l' 18, getL l' 19, getL l' 20, undef] ∧ Hp sb s F0 s' [Ck.ol OI 3 A3 c3 x33] ∧ x33.length = x3.length) ?_ ?_
  · intro K6 hK6
    refine HT_block ?_
    refine HT_loopK (fun kf l' s' => ∃ (x41 : List (Int)) (x42 : Int), (laws_toIntS.l1 p0 kf x41 x42).bind G6 = some r ∧ l' = [.slice A0p p0.length c0p, undef, .slice none 0 0, .slice A3 x3.length c3, .int .i64 x42, .slice A0p p0.length c0p, .int .i64 (p0.length : Int), .slice A3 x3.length c3, getL l' 8, getL l' 9, getL l' 10, getL l' 11, getL l' 12, getL l' 13, getL l' 14, getL l' 15, getL l' 16, getL l' 17, getL l' 18, getL l' 19, getL l' 20, undef] ∧ Hp sb s F0 s' [Ck.ol OI 3 A3 c3 x41] ∧ x41.length = x3.length) ((((p0.length : Int)) - (0)).toNat + 2) ⟨x3, 0, H, rfl, hH, rfl⟩ ?_
    rintro kf l' s52 ⟨x41, x42, H, hl, hH, hl41⟩ K52 hK52
    generalize getL l' 8 = j8, getL l' 9 = j9, getL l' 10 = j10, getL l' 11 = j11, getL l' 12 = j12, getL l' 13 = j13, getL l' 14 = j14, getL l' 15 = j15, getL l' 16 = j16, getL l' 17 = j17, getL l' 18 = j18, getL l' 19 = j19, getL l' 20 = j20 at hl
    subst hl
    cases kf with
    | zero => simp [laws_toIntS.l1] at H
    | succ kf =>
      rw [laws_toIntS.l1] at H
      refine HT_seq_k ?_
      intro K53 hK53
      refine HT_seq_k ?_
      intro K54 hK54
      refine HT_region ?_
      refine HL_cons rfl ?_
      refine o_move ?_
      try dsimp only [putL, setL, evL, getL]
      refine HL_cons rfl ?_
      refine o_move ?_
      try dsimp only [putL, setL, evL, getL]
      refine HL_cons rfl ?_
      refine o_len rfl Try.underlying22 ?_
      try dsimp only [putL, setL, evL, getL]
      refine HL_cons rfl ?_
      refine o_bin rfl rfl rfl ?_
      try dsimp only [putL, setL, evL, getL]
      refine HL_nil ?_
      refine hK54 _ _ ?_
      rcases Bool.eq_false_or_eq_true (decide (x42 < (p0.length : Int))) with hb55 | hb55
      · replace H := iteT hb55 H
        refine HT_true (congrArg Value.bool hb55) ?_
        refine HT_skip ?_
        refine hK53 _ _ ?_
        refine HT_seq_k ?_
        intro K56 hK56
        refine HT_block ?_
        refine HT_region ?_
        refine HL_cons rfl ?_
        refine o_move ?_
        try dsimp only [putL, setL, evL, getL]
        refine HL_cons rfl ?_
        refine o_move ?_
        try dsimp only [putL, setL, evL, getL]
        refine HL_cons rfl ?_
        refine o_move ?_
        try dsimp only [putL, setL, evL, getL]
        refine HL_cons rfl ?_
        refine o_move ?_
        try dsimp only [putL, setL, evL, getL]
        obtain ⟨u57, hu57, H⟩ := headE H
        obtain ⟨b57, o57, cs57, hr57, hh57, hel57⟩ := Rd.elb HRp0 hu57
        obtain rfl := hr57
        refine HL_cons rfl ?_
        refine hel57 s52 rfl rfl Try.underlying22 tI3 ?_
        try dsimp only [putL, setL, evL, getL]
        refine HL_cons rfl ?_
        refine o_load' rfl Try.underlying3 rfl ((hh57 hH.bs.mono) 0 _ rfl) ?_
        try dsimp only [putL, setL, evL, getL]
        obtain ⟨u58, hu58, H⟩ := headE H
        obtain ⟨b58, o58, cs58, hA58, hr58, hh58, hel58⟩ := hH.elo 0 rfl hu58
        obtain rfl := hr58
        refine HL_cons rfl ?_
        refine hel58 s52 (sliceLen hl41) rfl Try.underlying22 tI3 ?_
        try dsimp only [putL, setL, evL, getL]
        obtain ⟨x59, hx59, H⟩ := headE H
        refine HL_cons rfl ?_
        refine o_setF (vs := [.int .i64 u57]) (u := u57) hH 0 rfl rfl rfl rfl rfl tI3 hA58 hx59 (Ent.own (Ent.flat rfl)) ?_
        intro s59 hH'
        have hl59 := (st?_len hx59).trans hl41
        replace hH : Hp sb s F0 s59 [Ck.ol OI 3 A3 c3 x59] := hH'
        clear hH'
        try dsimp only [putL, setL, evL, getL]
        refine HL_nil ?_
        refine hK56 _ _ ?_
        refine HT_region ?_
        refine HL_cons rfl ?_
        refine o_move ?_
        try dsimp only [putL, setL, evL, getL]
        refine HL_cons rfl ?_
        refine o_bin rfl rfl rfl ?_
        try dsimp only [putL, setL, evL, getL]
        refine HL_cons rfl ?_
        refine o_assign ?_
        try dsimp only [putL, setL, evL, getL]
        refine HL_nil ?_
        exact hK52 _ _ ⟨kf, Nat.lt_succ_self kf, x59, IntKind.i64.wrap (x42 + 1), H, rfl, hH, hl59⟩
      · replace H := iteF hb55 H
        refine HT_false (congrArg Value.bool hb55) ?_
        refine HT_exit ?_
        exact hK6 _ _ ⟨x41, H, rfl, hH, hl41⟩
  · rintro l' s60 ⟨x33, H, hl, hH, hl33⟩
    generalize getL l' 4 = j4, getL l' 8 = j8, getL l' 9 = j9, getL l' 10 = j10, getL l' 11 = j11, getL l' 12 = j12, getL l' 13 = j13, getL l' 14 = j14, getL l' 15 = j15, getL l' 16 = j16, getL l' 17 = j17, getL l' 18 = j18, getL l' 19 = j19, getL l' 20 = j20 at hl
    subst hl
    replace H := hG6 _ H
    try dsimp only at H
    refine hK4 _ _ ?_
    refine HT_seq_k ?_
    intro K61 hK61
    refine HT_region ?_
    refine HL_cons rfl ?_
    refine o_move ?_
    try dsimp only [putL, setL, evL, getL]
    refine HL_cons rfl ?_
    refine o_assign ?_
    try dsimp only [putL, setL, evL, getL]
    refine HL_nil ?_
    refine hK61 _ _ ?_
    refine HT_ret ?_
    obtain rfl := Option.some.inj (show some _ = some r from H)
    exact hQr _ _ [.slice A3 x3.length c3] ⟨rfl, trivial⟩ ⟨A3, c3, (by first | (rw [hl33]; first | done | rfl) | rfl), hH⟩
def spec_l1In.f (p0 : Int) (p1 : Int) (p2 : Int) : Option Bool := if (decide (p0 ≥ p1)) = true then (some (decide (p0 ≤ p2))) else (some false)
def spec_l1In.post (sb s : St) (F0 : Fp) (r : Bool) : Value → St → Prop := fun v s' => v = .bool r ∧ Hp sb s F0 s' []
set_option maxRecDepth 100000 in
set_option maxHeartbeats 4000000 in
theorem spec_l1In.ok (sb s : St) (F0 : Fp) (p0 : Int) (p1 : Int) (p2 : Int) (hH : Hp sb s F0 s []) (r : Bool) (H : spec_l1In.f p0 p1 p2 = some r) : GCall Try.prog 84 #[.int .i64 p0, .int .i64 p1, .int .i64 p2] s (spec_l1In.post sb s F0 r) := by
  refine GCall_ofk [.tmp 6] [.int .i64 p0, .int .i64 p1, .int .i64 p2, undef, undef, undef, undef, undef, undef, undef, undef, undef, undef, undef, undef] Try.func84 rfl rfl rfl ?_
  intro w Q hQr hQn hQp
  replace H := topE H
  unfold spec_l1In.f at H
  refine HT_seq_k ?_
  intro K1 hK1
  refine HT_region ?_
  refine HL_cons rfl ?_
  refine o_assign ?_
  try dsimp only [putL, setL, evL, getL]
  refine HL_nil ?_
  refine hK1 _ _ ?_
  refine HT_seq_k ?_
  intro K2 hK2
  refine HT_region ?_
  refine HL_cons rfl ?_
  refine o_move ?_
  try dsimp only [putL, setL, evL, getL]
  refine HL_cons rfl ?_
  refine o_move ?_
  try dsimp only [putL, setL, evL, getL]
  refine HL_cons rfl ?_
  refine o_bin rfl rfl rfl ?_
  try dsimp only [putL, setL, evL, getL]
  refine HL_cons rfl ?_
  refine o_move ?_
  try dsimp only [putL, setL, evL, getL]
  rcases Bool.eq_false_or_eq_true (decide (p0 ≥ p1)) with hb3 | hb3
  · replace H := iteT hb3 H
    refine HL_want ?_ ?_
    · exact wantT (j := 3) (b := true) (t := 10) (c := decide (p0 ≥ p1)) rfl rfl rfl rfl hb3
    refine o_move ?_
    try dsimp only [putL, setL, evL, getL]
    refine HL_want ?_ ?_
    · exact wantT (j := 3) (b := true) (t := 10) (c := decide (p0 ≥ p1)) rfl rfl rfl rfl hb3
    refine o_move ?_
    try dsimp only [putL, setL, evL, getL]
    refine HL_want ?_ ?_
    · exact wantT (j := 3) (b := true) (t := 10) (c := decide (p0 ≥ p1)) rfl rfl rfl rfl hb3
    refine o_bin rfl rfl rfl ?_
    try dsimp only [putL, setL, evL, getL]
    refine HL_cons rfl ?_
    refine o_pickT rfl hb3 ?_
    try dsimp only [putL, setL, evL, getL]
    refine HL_cons rfl ?_
    refine o_assign ?_
    try dsimp only [putL, setL, evL, getL]
    refine HL_nil ?_
    refine hK2 _ _ ?_
    refine HT_ret ?_
    obtain rfl := Option.some.inj (show some _ = some r from H)
    exact hQr _ _ [.bool (decide (p0 ≤ p2))] ⟨rfl, trivial⟩ ⟨rfl, hH⟩
  · replace H := iteF hb3 H
    refine HL_skip ?_ ?_
    · exact wantF (j := 3) (b := true) (t := 10) (c := decide (p0 ≥ p1)) rfl rfl rfl rfl hb3
    try dsimp only [putL, setL, evL, getL]
    refine HL_skip ?_ ?_
    · exact wantF (j := 3) (b := true) (t := 10) (c := decide (p0 ≥ p1)) rfl rfl rfl rfl hb3
    try dsimp only [putL, setL, evL, getL]
    refine HL_skip ?_ ?_
    · exact wantF (j := 3) (b := true) (t := 10) (c := decide (p0 ≥ p1)) rfl rfl rfl rfl hb3
    try dsimp only [putL, setL, evL, getL]
    refine HL_cons rfl ?_
    refine o_pickF rfl hb3 ?_
    try dsimp only [putL, setL, evL, getL]
    refine HL_cons rfl ?_
    refine o_assign ?_
    try dsimp only [putL, setL, evL, getL]
    refine HL_nil ?_
    refine hK2 _ _ ?_
    refine HT_ret ?_
    obtain rfl := Option.some.inj (show some _ = some r from H)
    exact hQr _ _ [.bool false] ⟨rfl, trivial⟩ ⟨rfl, hH⟩
def spec_GoodRune.f (p0 : Int) : Option Bool := (spec_l1In.f p0 0 1114111).bind fun u3 => if u3 = true then ((spec_l1In.f p0 55296 57343).bind fun u5 => some (!u5)) else (some false)
def spec_GoodRune.post (sb s : St) (F0 : Fp) (r : Bool) : Value → St → Prop := fun v s' => v = .bool r ∧ Hp sb s F0 s' []
set_option maxRecDepth 100000 in
set_option maxHeartbeats 4000000 in
theorem spec_GoodRune.ok (sb s : St) (F0 : Fp) (p0 : Int) (hH : Hp sb s F0 s []) (r : Bool) (H : spec_GoodRune.f p0 = some r) : GCall Try.prog 135 #[.int .i64 p0] s (spec_GoodRune.post sb s F0 r) := by
  refine GCall_ofk [.tmp 2] [.int .i64 p0, undef, undef, undef, undef, undef, undef, undef, undef, undef] Try.func135 rfl rfl rfl ?_
  intro w Q hQr hQn hQp
  replace H := topE H
  unfold spec_GoodRune.f at H
  refine HT_seq_k ?_
  intro K1 hK1
  refine HT_region ?_
  refine HL_cons rfl ?_
  refine o_assign ?_
  try dsimp only [putL, setL, evL, getL]
  refine HL_nil ?_
  refine hK1 _ _ ?_
  refine HT_seq_k ?_
  intro K2 hK2
  refine HT_region ?_
  refine HL_cons rfl ?_
  refine o_move ?_
  try dsimp only [putL, setL, evL, getL]
  obtain ⟨u3, hu3, H⟩ := headE H
  refine HL_cons rfl ?_
  refine o_call (args := #[.int .i64 p0, .int .i64 0, .int .i64 1114111]) Try.func84 rfl rfl rfl (spec_l1In.ok sb s no p0 0 1114111 (Hp.own hH.bs) _ hu3) ?_
  rintro _ s3 ⟨rfl, hD⟩
  replace hH := hH.back0 hD (Up.refl _ _ _)
  clear hD
  dsimp only [addC, setC, rmC, selC, getC] at hH
  try dsimp only [putL, setL, evL, getL]
  refine HL_cons rfl ?_
  refine o_move ?_
  try dsimp only [putL, setL, evL, getL]
  rcases Bool.eq_false_or_eq_true u3 with hb4 | hb4
  · replace H := iteT hb4 H
    refine HL_want ?_ ?_
    · exact wantT (j := 2) (b := true) (t := 5) (c := u3) rfl rfl rfl rfl hb4
    refine o_move ?_
    try dsimp only [putL, setL, evL, getL]
    obtain ⟨u5, hu5, H⟩ := headE H
    refine HL_want ?_ ?_
    · exact wantT (j := 2) (b := true) (t := 5) (c := u3) rfl rfl rfl rfl hb4
    refine o_call (args := #[.int .i64 p0, .int .i64 55296, .int .i64 57343]) Try.func84 rfl rfl rfl (spec_l1In.ok sb s3 no p0 55296 57343 (Hp.own hH.bs) _ hu5) ?_
    rintro _ s5 ⟨rfl, hD⟩
    replace hH := hH.back0 hD (Up.refl _ _ _)
    clear hD
    dsimp only [addC, setC, rmC, selC, getC] at hH
    try dsimp only [putL, setL, evL, getL]
    refine HL_want ?_ ?_
    · exact wantT (j := 2) (b := true) (t := 5) (c := u3) rfl rfl rfl rfl hb4
    refine o_not rfl ?_
    try dsimp only [putL, setL, evL, getL]
    refine HL_cons rfl ?_
    refine o_pickT rfl hb4 ?_
    try dsimp only [putL, setL, evL, getL]
    refine HL_cons rfl ?_
    refine o_assign ?_
    try dsimp only [putL, setL, evL, getL]
    refine HL_nil ?_
    refine hK2 _ _ ?_
    refine HT_ret ?_
    obtain rfl := Option.some.inj (show some _ = some r from H)
    exact hQr _ _ [.bool (!u5)] ⟨rfl, trivial⟩ ⟨rfl, hH⟩
  · replace H := iteF hb4 H
    refine HL_skip ?_ ?_
    · exact wantF (j := 2) (b := true) (t := 5) (c := u3) rfl rfl rfl rfl hb4
    try dsimp only [putL, setL, evL, getL]
    refine HL_skip ?_ ?_
    · exact wantF (j := 2) (b := true) (t := 5) (c := u3) rfl rfl rfl rfl hb4
    try dsimp only [putL, setL, evL, getL]
    refine HL_skip ?_ ?_
    · exact wantF (j := 2) (b := true) (t := 5) (c := u3) rfl rfl rfl rfl hb4
    try dsimp only [putL, setL, evL, getL]
    refine HL_cons rfl ?_
    refine o_pickF rfl hb4 ?_
    try dsimp only [putL, setL, evL, getL]
    refine HL_cons rfl ?_
    refine o_assign ?_
    try dsimp only [putL, setL, evL, getL]
    refine HL_nil ?_
    refine hK2 _ _ ?_
    refine HT_ret ?_
    obtain rfl := Option.some.inj (show some _ = some r from H)
    exact hQr _ _ [.bool false] ⟨rfl, trivial⟩ ⟨rfl, hH⟩
def spec_l1AllRunes.l1 (p0 : List (Int)) : Nat → Int → Option (Lo Unit Bool)
  | 0, _ => none
  | kf + 1, x48 => if (decide (x48 < (p0.length : Int))) = true then ((rd? p0 x48).bind fun u66 => (spec_GoodRune.f u66).bind fun u68 => if (!u68) = true then ((some false).bind fun z => some (Lo.ret z)) else (spec_l1AllRunes.l1 p0 kf (IntKind.i64.wrap (x48 + 1)))) else (some (Lo.go ()))
def spec_l1AllRunes.f (p0 : List (Int)) : Option Bool := (spec_l1AllRunes.l1 p0 ((((p0.length : Int)) - (0)).toNat + 2) 0).bind fun (o : Lo Unit Bool) => match o with | .go () => (some (decide ((p0.length : Int) ≤ 1000))) | .ret z => some z
def spec_l1AllRunes.post (sb s : St) (F0 : Fp) (r : Bool) : Value → St → Prop := fun v s' => v = .bool r ∧ Hp sb s F0 s' []
set_option maxRecDepth 100000 in
set_option maxHeartbeats 4000000 in
theorem spec_l1AllRunes.ok (sb s : St) (F0 : Fp) (A0p : Option Addr) (c0p : Nat) (p0 : List (Int)) (HRp0 : Rd KI sb A0p c0p p0) (hH : Hp sb s F0 s []) (r : Bool) (H : spec_l1AllRunes.f p0 = some r) : GCall Try.prog 107 #[.slice A0p p0.length c0p] s (spec_l1AllRunes.post sb s F0 r) := by
  refine GCall_ofk [.tmp 2] [.slice A0p p0.length c0p, undef, undef, undef, undef, undef, undef, undef, undef, undef, undef, undef, undef, undef, undef, undef, undef, undef] Try.func107 rfl rfl rfl ?_
  intro w Q hQr hQn hQp
  replace H := topE H
  unfold spec_l1AllRunes.f at H
  refine HT_seq_k ?_
  intro K1 hK1
  refine HT_region ?_
  refine HL_cons rfl ?_
  refine o_assign ?_
  try dsimp only [putL, setL, evL, getL]
  refine HL_nil ?_
  refine hK1 _ _ ?_
  refine HT_seq_k ?_
  intro K2 hK2
  refine HT_seq_k ?_
  intro K3 hK3
  refine HT_region ?_
  refine HL_cons rfl ?_
  refine o_move ?_
  try dsimp only [putL, setL, evL, getL]
  refine HL_cons rfl ?_
  refine o_len rfl Try.underlying22 ?_
  try dsimp only [putL, setL, evL, getL]
  refine HL_cons rfl ?_
  refine o_move ?_
  try dsimp only [putL, setL, evL, getL]
  refine HL_nil ?_
  refine hK3 _ _ ?_
  refine joinH H fun G4 hG4 H => ?_
  refine HT_toK (fun l' s' => G4 (.go ()) = some r ∧ l' = [.slice A0p p0.length c0p, undef, getL l' 2, undef, getL l' 4, .slice A0p p0.length c0p, .int .i64 (p0.length : Int), getL l' 7, getL l' 8, getL l' 9, getL l' 10, getL l' 11, getL l' 12, getL l' 13, getL l' 14, undef, undef, undef] ∧ Hp sb s F0 s' []) ?_ ?_
  · intro K4 hK4
    refine HT_block ?_
    refine HT_loopK (fun kf l' s' => ∃ (x48 : Int), (spec_l1AllRunes.l1 p0 kf x48).bind G4 = some r ∧ l' = [.slice A0p p0.length c0p, undef, getL l' 2, undef, getL l' 4, .slice A0p p0.length c0p, .int .i64 (p0.length : Int), .int .i64 x48, getL l' 8, getL l' 9, getL l' 10, getL l' 11, getL l' 12, getL l' 13, getL l' 14, undef, undef, undef] ∧ Hp sb s F0 s' []) ((((p0.length : Int)) - (0)).toNat + 2) ⟨0, H, rfl, hH⟩ ?_
    rintro kf l' s60 ⟨x48, H, hl, hH⟩ K60 hK60
    generalize getL l' 2 = j2, getL l' 4 = j4, getL l' 8 = j8, getL l' 9 = j9, getL l' 10 = j10, getL l' 11 = j11, getL l' 12 = j12, getL l' 13 = j13, getL l' 14 = j14 at hl
    subst hl
    cases kf with
    | zero => simp [spec_l1AllRunes.l1] at H
    | succ kf =>
      rw [spec_l1AllRunes.l1] at H
      refine HT_seq_k ?_
      intro K61 hK61
      refine HT_region ?_
      refine HL_cons rfl ?_
      refine o_bin rfl rfl rfl ?_
      try dsimp only [putL, setL, evL, getL]
      refine HL_nil ?_
      refine hK61 _ _ ?_
      refine HT_seq_k ?_
      intro K62 hK62
      rcases Bool.eq_false_or_eq_true (decide (x48 < (p0.length : Int))) with hb63 | hb63
      · replace H := iteT hb63 H
        refine HT_true (congrArg Value.bool hb63) ?_
        refine HT_skip ?_
        refine hK62 _ _ ?_
        refine HT_seq_k ?_
        intro K64 hK64
        refine HT_block ?_
        refine HT_seq_k ?_
        intro K65 hK65
        refine HT_region ?_
        obtain ⟨u66, hu66, H⟩ := headE H
        obtain ⟨b66, o66, cs66, hr66, hh66, hel66⟩ := Rd.elb HRp0 hu66
        obtain rfl := hr66
        refine HL_cons rfl ?_
        refine hel66 s60 rfl rfl Try.underlying22 tI3 ?_
        try dsimp only [putL, setL, evL, getL]
        refine HL_cons rfl ?_
        refine o_load' rfl Try.underlying3 rfl ((hh66 hH.bs.mono) 0 _ rfl) ?_
        try dsimp only [putL, setL, evL, getL]
        refine HL_cons rfl ?_
        refine o_assign ?_
        try dsimp only [putL, setL, evL, getL]
        refine HL_nil ?_
        refine hK65 _ _ ?_
        refine HT_seq_k ?_
        intro K67 hK67
        refine HT_region ?_
        refine HL_cons rfl ?_
        refine o_move ?_
        try dsimp only [putL, setL, evL, getL]
        obtain ⟨u68, hu68, H⟩ := headE H
        refine HL_cons rfl ?_
        refine o_call (args := #[.int .i64 u66]) Try.func135 rfl rfl rfl (spec_GoodRune.ok sb s60 no u66 (Hp.own hH.bs) _ hu68) ?_
        rintro _ s68 ⟨rfl, hD⟩
        replace hH := hH.back0 hD (Up.refl _ _ _)
        clear hD
        dsimp only [addC, setC, rmC, selC, getC] at hH
        try dsimp only [putL, setL, evL, getL]
        refine HL_cons rfl ?_
        refine o_not rfl ?_
        try dsimp only [putL, setL, evL, getL]
        refine HL_nil ?_
        refine hK67 _ _ ?_
        rcases Bool.eq_false_or_eq_true (!u68) with hb69 | hb69
        · replace H := iteT hb69 H
          refine HT_true (congrArg Value.bool hb69) ?_
          refine HT_seq_k ?_
          intro K70 hK70
          refine HT_region ?_
          refine HL_cons rfl ?_
          refine o_assign ?_
          try dsimp only [putL, setL, evL, getL]
          refine HL_nil ?_
          refine hK70 _ _ ?_
          refine HT_ret ?_
          replace H := escH (fun z hz => hG4 _ hz) H
          obtain rfl := Option.some.inj (show some _ = some r from H)
          exact hQr _ _ [.bool false] ⟨rfl, trivial⟩ ⟨rfl, hH⟩
        · replace H := iteF hb69 H
          refine HT_false (congrArg Value.bool hb69) ?_
          refine HT_skip ?_
          refine hK64 _ _ ?_
          refine HT_region ?_
          refine HL_cons rfl ?_
          refine o_bin rfl rfl rfl ?_
          try dsimp only [putL, setL, evL, getL]
          refine HL_cons rfl ?_
          refine o_move ?_
          try dsimp only [putL, setL, evL, getL]
          refine HL_nil ?_
          exact hK60 _ _ ⟨kf, Nat.lt_succ_self kf, IntKind.i64.wrap (x48 + 1), H, rfl, hH⟩
      · replace H := iteF hb63 H
        refine HT_false (congrArg Value.bool hb63) ?_
        refine HT_exit ?_
        exact hK4 _ _ ⟨H, rfl, hH⟩
  · rintro l' s71 ⟨H, hl, hH⟩
    generalize getL l' 2 = j2, getL l' 4 = j4, getL l' 7 = j7, getL l' 8 = j8, getL l' 9 = j9, getL l' 10 = j10, getL l' 11 = j11, getL l' 12 = j12, getL l' 13 = j13, getL l' 14 = j14 at hl
    subst hl
    replace H := hG4 _ H
    try dsimp only at H
    refine hK2 _ _ ?_
    refine HT_seq_k ?_
    intro K72 hK72
    refine HT_region ?_
    refine HL_cons rfl ?_
    refine o_move ?_
    try dsimp only [putL, setL, evL, getL]
    refine HL_cons rfl ?_
    refine o_len rfl Try.underlying22 ?_
    try dsimp only [putL, setL, evL, getL]
    refine HL_cons rfl ?_
    refine o_bin rfl rfl rfl ?_
    try dsimp only [putL, setL, evL, getL]
    refine HL_cons rfl ?_
    refine o_assign ?_
    try dsimp only [putL, setL, evL, getL]
    refine HL_nil ?_
    refine hK72 _ _ ?_
    refine HT_ret ?_
    obtain rfl := Option.some.inj (show some _ = some r from H)
    exact hQr _ _ [.bool (decide ((p0.length : Int) ≤ 1000))] ⟨rfl, trivial⟩ ⟨rfl, hH⟩
def spec_l15List.f (p0 : List (Int)) : Option Bool := (spec_l1AllRunes.f p0).bind fun u3 => if u3 = true then (some (decide ((p0.length : Int) ≤ 60))) else (some false)
def spec_l15List.post (sb s : St) (F0 : Fp) (r : Bool) : Value → St → Prop := fun v s' => v = .bool r ∧ Hp sb s F0 s' []
set_option maxRecDepth 100000 in
set_option maxHeartbeats 4000000 in
theorem spec_l15List.ok (sb s : St) (F0 : Fp) (A0p : Option Addr) (c0p : Nat) (p0 : List (Int)) (HRp0 : Rd KI sb A0p c0p p0) (hH : Hp sb s F0 s []) (r : Bool) (H : spec_l15List.f p0 = some r) : GCall Try.prog 96 #[.slice A0p p0.length c0p] s (spec_l15List.post sb s F0 r) := by
  refine GCall_ofk [.tmp 2] [.slice A0p p0.length c0p, undef, undef, undef, undef, undef, undef, undef, undef, undef] Try.func96 rfl rfl rfl ?_
  intro w Q hQr hQn hQp
  replace H := topE H
  unfold spec_l15List.f at H
  refine HT_seq_k ?_
  intro K1 hK1
  refine HT_region ?_
  refine HL_cons rfl ?_
  refine o_assign ?_
  try dsimp only [putL, setL, evL, getL]
  refine HL_nil ?_
  refine hK1 _ _ ?_
  refine HT_seq_k ?_
  intro K2 hK2
  refine HT_region ?_
  refine HL_cons rfl ?_
  refine o_move ?_
  try dsimp only [putL, setL, evL, getL]
  obtain ⟨u3, hu3, H⟩ := headE H
  refine HL_cons rfl ?_
  refine o_call (args := #[.slice A0p p0.length c0p]) Try.func107 rfl rfl rfl (spec_l1AllRunes.ok sb s no A0p c0p p0 HRp0 (Hp.own hH.bs) _ hu3) ?_
  rintro _ s3 ⟨rfl, hD⟩
  replace hH := hH.back0 hD (Up.refl _ _ _)
  clear hD
  dsimp only [addC, setC, rmC, selC, getC] at hH
  try dsimp only [putL, setL, evL, getL]
  refine HL_cons rfl ?_
  refine o_move ?_
  try dsimp only [putL, setL, evL, getL]
  rcases Bool.eq_false_or_eq_true u3 with hb4 | hb4
  · replace H := iteT hb4 H
    refine HL_want ?_ ?_
    · exact wantT (j := 2) (b := true) (t := 5) (c := u3) rfl rfl rfl rfl hb4
    refine o_move ?_
    try dsimp only [putL, setL, evL, getL]
    refine HL_want ?_ ?_
    · exact wantT (j := 2) (b := true) (t := 5) (c := u3) rfl rfl rfl rfl hb4
    refine o_len rfl Try.underlying22 ?_
    try dsimp only [putL, setL, evL, getL]
    refine HL_want ?_ ?_
    · exact wantT (j := 2) (b := true) (t := 5) (c := u3) rfl rfl rfl rfl hb4
    refine o_bin rfl rfl rfl ?_
    try dsimp only [putL, setL, evL, getL]
    refine HL_cons rfl ?_
    refine o_pickT rfl hb4 ?_
    try dsimp only [putL, setL, evL, getL]
    refine HL_cons rfl ?_
    refine o_assign ?_
    try dsimp only [putL, setL, evL, getL]
    refine HL_nil ?_
    refine hK2 _ _ ?_
    refine HT_ret ?_
    obtain rfl := Option.some.inj (show some _ = some r from H)
    exact hQr _ _ [.bool (decide ((p0.length : Int) ≤ 60))] ⟨rfl, trivial⟩ ⟨rfl, hH⟩
  · replace H := iteF hb4 H
    refine HL_skip ?_ ?_
    · exact wantF (j := 2) (b := true) (t := 5) (c := u3) rfl rfl rfl rfl hb4
    try dsimp only [putL, setL, evL, getL]
    refine HL_skip ?_ ?_
    · exact wantF (j := 2) (b := true) (t := 5) (c := u3) rfl rfl rfl rfl hb4
    try dsimp only [putL, setL, evL, getL]
    refine HL_skip ?_ ?_
    · exact wantF (j := 2) (b := true) (t := 5) (c := u3) rfl rfl rfl rfl hb4
    try dsimp only [putL, setL, evL, getL]
    refine HL_cons rfl ?_
    refine o_pickF rfl hb4 ?_
    try dsimp only [putL, setL, evL, getL]
    refine HL_cons rfl ?_
    refine o_assign ?_
    try dsimp only [putL, setL, evL, getL]
    refine HL_nil ?_
    refine hK2 _ _ ?_
    refine HT_ret ?_
    obtain rfl := Option.some.inj (show some _ = some r from H)
    exact hQr _ _ [.bool false] ⟨rfl, trivial⟩ ⟨rfl, hH⟩
def spec_l1Most.f (p0 : Int) (p1 : Int) : Option Int := if (decide (p0 > p1)) = true then (some p0) else (some p1)
def spec_l1Most.post (sb s : St) (F0 : Fp) (r : Int) : Value → St → Prop := fun v s' => v = .int .i64 r ∧ Hp sb s F0 s' []
set_option maxRecDepth 100000 in
set_option maxHeartbeats 4000000 in
theorem spec_l1Most.ok (sb s : St) (F0 : Fp) (p0 : Int) (p1 : Int) (hH : Hp sb s F0 s []) (r : Int) (H : spec_l1Most.f p0 p1 = some r) : GCall Try.prog 150 #[.int .i64 p0, .int .i64 p1] s (spec_l1Most.post sb s F0 r) := by
  refine GCall_ofk [.tmp 4] [.int .i64 p0, .int .i64 p1, undef, undef, undef, undef, undef, undef, undef, undef] Try.func150 rfl rfl rfl ?_
  intro w Q hQr hQn hQp
  replace H := topE H
  unfold spec_l1Most.f at H
  refine HT_seq_k ?_
  intro K1 hK1
  refine HT_region ?_
  refine HL_cons rfl ?_
  refine o_assign ?_
  try dsimp only [putL, setL, evL, getL]
  refine HL_nil ?_
  refine hK1 _ _ ?_
  refine HT_seq_k ?_
  intro K2 hK2
  refine HT_seq_k ?_
  intro K3 hK3
  refine HT_region ?_
  refine HL_cons rfl ?_
  refine o_move ?_
  try dsimp only [putL, setL, evL, getL]
  refine HL_cons rfl ?_
  refine o_move ?_
  try dsimp only [putL, setL, evL, getL]
  refine HL_cons rfl ?_
  refine o_bin rfl rfl rfl ?_
  try dsimp only [putL, setL, evL, getL]
  refine HL_nil ?_
  refine hK3 _ _ ?_
  rcases Bool.eq_false_or_eq_true (decide (p0 > p1)) with hb4 | hb4
  · replace H := iteT hb4 H
    refine HT_true (congrArg Value.bool hb4) ?_
    refine HT_seq_k ?_
    intro K5 hK5
    refine HT_region ?_
    refine HL_cons rfl ?_
    refine o_move ?_
    try dsimp only [putL, setL, evL, getL]
    refine HL_cons rfl ?_
    refine o_assign ?_
    try dsimp only [putL, setL, evL, getL]
    refine HL_nil ?_
    refine hK5 _ _ ?_
    refine HT_ret ?_
    obtain rfl := Option.some.inj (show some _ = some r from H)
    exact hQr _ _ [.int .i64 p0] ⟨rfl, trivial⟩ ⟨rfl, hH⟩
  · replace H := iteF hb4 H
    refine HT_false (congrArg Value.bool hb4) ?_
    refine HT_skip ?_
    refine hK2 _ _ ?_
    refine HT_seq_k ?_
    intro K6 hK6
    refine HT_region ?_
    refine HL_cons rfl ?_
    refine o_move ?_
    try dsimp only [putL, setL, evL, getL]
    refine HL_cons rfl ?_
    refine o_assign ?_
    try dsimp only [putL, setL, evL, getL]
    refine HL_nil ?_
    refine hK6 _ _ ?_
    refine HT_ret ?_
    obtain rfl := Option.some.inj (show some _ = some r from H)
    exact hQr _ _ [.int .i64 p1] ⟨rfl, trivial⟩ ⟨rfl, hH⟩
def spec_l15Common.l2 (p0 : List (Int)) (p1 : List (Int)) (x3310 : Int) : Nat → (List (List (Int))) → Int → Option (List (List (Int)))
  | 0, _, _ => none
  | kf + 1, x4825, x4826 => (if (decide (x4826 ≥ 0)) = true then (some (decide (x3310 < (p0.length : Int)))) else (some false)).bind fun (o : Bool) => match o with | x4905 => (if x4905 = true then (((rd? p0 x3310).bind fun u4936 => (rd? p1 x4826).bind fun u4937 => if (u4936 == u4937) = true then ((rd? x4825 (IntKind.i64.wrap (x3310 + 1))).bind fun u4939 => (rd? u4939 (IntKind.i64.wrap (x4826 + 1))).bind fun u4941 => (rd? x4825 x3310).bind fun u4942 => (rd? u4942 x4826).bind fun u4944 => (st? u4942 x4826 (IntKind.i64.wrap (u4941 + 1))).bind fun x4945 => (st? x4825 x3310 x4945).bind fun x4946 => some x4946) else ((rd? x4825 (IntKind.i64.wrap (x3310 + 1))).bind fun u4947 => (rd? u4947 x4826).bind fun u4949 => (rd? x4825 x3310).bind fun u4950 => (rd? u4950 (IntKind.i64.wrap (x4826 + 1))).bind fun u4952 => (rd? x4825 x3310).bind fun u4953 => (spec_l1Most.f u4949 u4952).bind fun u4955 => (rd? u4953 x4826).bind fun u4956 => (st? u4953 x4826 u4955).bind fun x4957 => (st? x4825 x3310 x4957).bind fun x4958 => some x4958)).bind fun (o : (List (List (Int)))) => match o with | x4934 => (spec_l15Common.l2 p0 p1 x3310 kf x4934 (IntKind.i64.wrap (x4826 - 1)))) else (some x4825))
def spec_l15Common.l1 (p0 : List (Int)) (p1 : List (Int)) : Nat → (List (List (Int))) → Int → Option (List (List (Int)))
  | 0, _, _ => none
  | kf + 1, x3309, x3310 => if (decide (x3310 ≥ 0)) = true then (((mk? 17592186044416 0 (IntKind.i64.wrap ((p1.length : Int) + 1))).bind fun x4553 => (rd? x3309 x3310).bind fun u4554 => (st? x3309 x3310 x4553).bind fun x4556 => (spec_l15Common.l2 p0 p1 x3310 (((IntKind.i64.wrap ((p1.length : Int) - 1)) - (0)).toNat + 2) x4556 (IntKind.i64.wrap ((p1.length : Int) - 1))).bind fun (o : (List (List (Int)))) => match o with | x4759 => (some x4759)).bind fun (o : (List (List (Int)))) => match o with | x4551 => (spec_l15Common.l1 p0 p1 kf x4551 (IntKind.i64.wrap (x3310 - 1)))) else (some x3309)
def spec_l15Common.f (p0 : List (Int)) (p1 : List (Int)) : Option (List (List (Int))) := (mk? 5864062014805 [] (IntKind.i64.wrap ((p0.length : Int) + 1))).bind fun x3 => (spec_l15Common.l1 p0 p1 ((((p0.length : Int)) - (0)).toNat + 2) x3 (p0.length : Int)).bind fun (o : (List (List (Int)))) => match o with | x2484 => (some x2484)
def spec_l15Common.post (sb s : St) (F0 : Fp) (r : (List (List (Int)))) : Value → St → Prop := fun v s' => ∃ (A0 : Option Addr) (c0 : Nat), v = .slice A0 r.length c0 ∧ Hp sb s F0 s' [Ck.ol (Ow.sl OI 3) 22 A0 c0 r]
set_option maxRecDepth 100000 in
set_option maxHeartbeats 4000000 in
theorem spec_l15Common.ok (sb s : St) (F0 : Fp) (A0p : Option Addr) (c0p : Nat) (p0 : List (Int)) (A1p : Option Addr) (c1p : Nat) (p1 : List (Int)) (HRp0 : Rd KI sb A0p c0p p0) (HRp1 : Rd KI sb A1p c1p p1) (hH : Hp sb s F0 s []) (r : (List (List (Int)))) (H : spec_l15Common.f p0 p1 = some r) : GCall Try.prog 143 #[.slice A0p p0.length c0p, .slice A1p p1.length c1p] s (spec_l15Common.post sb s F0 r) := by
  refine GCall_ofk [.tmp 4] [.slice A0p p0.length c0p, .slice A1p p1.length c1p, undef, undef, undef, undef, undef, undef, undef, undef, undef, undef, undef, undef, undef, undef, undef, undef, undef, undef, undef, undef, undef, undef, undef, undef, undef, undef, undef, undef, undef, undef, undef, undef, undef, undef, undef, undef, undef, undef, undef, undef, undef, undef, undef, undef, undef, undef, undef, undef, undef, undef, undef, undef, undef, undef, undef, undef, undef, undef, undef, undef, undef, undef, undef, undef, undef, undef, undef, undef, undef, undef, undef, undef, undef, undef, undef, undef, undef, undef, undef, undef, undef, undef, undef, undef, undef] Try.func143 rfl rfl rfl ?_
  intro w Q hQr hQn hQp
  replace H := topE H
  unfold spec_l15Common.f at H
  refine HT_seq_k ?_
  intro K1 hK1
  refine HT_region ?_
  refine HL_cons rfl ?_
  refine o_assign ?_
  try dsimp only [putL, setL, evL, getL]
  refine HL_nil ?_
  refine hK1 _ _ ?_
  refine HT_seq_k ?_
  intro K2 hK2
  refine HT_region ?_
  refine HL_cons rfl ?_
  refine o_move ?_
  try dsimp only [putL, setL, evL, getL]
  refine HL_cons rfl ?_
  refine o_len rfl Try.underlying22 ?_
  try dsimp only [putL, setL, evL, getL]
  refine HL_cons rfl ?_
  refine o_bin rfl rfl rfl ?_
  try dsimp only [putL, setL, evL, getL]
  obtain ⟨x3, hx3, H⟩ := headE H
  refine HL_cons rfl ?_
  refine o_makeH (K := (Kd.sl KI)) (O := (Ow.sl OI 3)) (x0 := []) hH rfl Try.underlying148 tI22 rfl (by decide) (by decide) (by decide) Own0.nil hx3 ?_
  intro A3 c3 s3 hH' hG
  replace hH : Hp sb s F0 s3 [Ck.ol (Ow.sl OI 3) 22 A3 c3 x3] := hH'
  clear hH' hG
  try dsimp only [putL, setL, evL, getL]
  refine HL_cons rfl ?_
  refine o_assign ?_
  try dsimp only [putL, setL, evL, getL]
  refine HL_nil ?_
  refine hK2 _ _ ?_
  refine HT_seq_k ?_
  intro K4 hK4
  refine HT_seq_k ?_
  intro K5 hK5
  refine HT_region ?_
  refine HL_cons rfl ?_
  refine o_move ?_
  try dsimp only [putL, setL, evL, getL]
  refine HL_cons rfl ?_
  refine o_len rfl Try.underlying22 ?_
  try dsimp only [putL, setL, evL, getL]
  refine HL_cons rfl ?_
  refine o_assign ?_
  try dsimp only [putL, setL, evL, getL]
  refine HL_nil ?_
  refine hK5 _ _ ?_
  refine joinH H fun G6 hG6 H => ?_
  refine HT_toK (fun l' s' => ∃ (x2484 : List (List (Int))), G6 x2484 = some r ∧ l' = [.slice A0p p0.length c0p, .slice A1p p1.length c1p, undef, undef, .slice none 0 0, .slice A3 x3.length c3, getL l' 6, getL l' 7, .slice A0p p0.length c0p, .int .i64 (p0.length : Int), .int .i64 (IntKind.i64.wrap ((p0.length : Int) + 1)), .slice A3 x3.length c3, .slice A0p p0.length c0p, .int .i64 (p0.length : Int), getL l' 14, getL l' 15, getL l' 16, getL l' 17, getL l' 18, getL l' 19, getL l' 20, getL l' 21, getL l' 22, getL l' 23, getL l' 24, getL l' 25, getL l' 26, getL l' 27, getL l' 28, getL l' 29, getL l' 30, getL l' 31, getL l' 32, getL l' 33, getL l' 34, getL l' 35, getL l' 36, getL l' 37, getL l' 38, getL l' 39, getL l' 40, getL l' 41, getL l' 42, getL l' 43, getL l' 44, getL l' 45, getL l' 46, getL l' 47, getL l' 48, getL l' 49, getL l' 50, getL l' 51, getL l' 52, getL l' 53, getL l' 54, getL l' 55, getL l' 56, getL l' 57, getL l' 58, getL l' 59, getL l' 60, getL l' 61, getL l' 62, getL l' 63, getL l' 64, getL l' 65, getL l' 66, getL l' 67, getL l' 68, getL l' 69, getL l' 70, getL l' 71, getL l' 72, getL l' 73, getL l' 74, getL l' 75, getL l' 76, getL l' 77, getL l' 78, getL l' 79, getL l' 80, getL l' 81, getL l' 82, getL l' 83, getL l' 84, getL l' 85, undef] ∧ Hp sb s F0 s' [Ck.ol (Ow.sl OI 3) 22 A3 c3 x2484] ∧ x2484.length = x3.length) ?_ ?_
  · intro K6 hK6
    refine HT_block ?_
    refine HT_loopK (fun kf l' s' => ∃ (x3309 : List (List (Int))) (x3310 : Int), (spec_l15Common.l1 p0 p1 kf x3309 x3310).bind G6 = some r ∧ l' = [.slice A0p p0.length c0p, .slice A1p p1.length c1p, undef, undef, .slice none 0 0, .slice A3 x3.length c3, .int .i64 x3310, getL l' 7, .slice A0p p0.length c0p, .int .i64 (p0.length : Int), .int .i64 (IntKind.i64.wrap ((p0.length : Int) + 1)), .slice A3 x3.length c3, .slice A0p p0.length c0p, .int .i64 (p0.length : Int), getL l' 14, getL l' 15, getL l' 16, getL l' 17, getL l' 18, getL l' 19, getL l' 20, getL l' 21, getL l' 22, getL l' 23, getL l' 24, getL l' 25, getL l' 26, getL l' 27, getL l' 28, getL l' 29, getL l' 30, getL l' 31, getL l' 32, getL l' 33, getL l' 34, getL l' 35, getL l' 36, getL l' 37, getL l' 38, getL l' 39, getL l' 40, getL l' 41, getL l' 42, getL l' 43, getL l' 44, getL l' 45, getL l' 46, getL l' 47, getL l' 48, getL l' 49, getL l' 50, getL l' 51, getL l' 52, getL l' 53, getL l' 54, getL l' 55, getL l' 56, getL l' 57, getL l' 58, getL l' 59, getL l' 60, getL l' 61, getL l' 62, getL l' 63, getL l' 64, getL l' 65, getL l' 66, getL l' 67, getL l' 68, getL l' 69, getL l' 70, getL l' 71, getL l' 72, getL l' 73, getL l' 74, getL l' 75, getL l' 76, getL l' 77, getL l' 78, getL l' 79, getL l' 80, getL l' 81, getL l' 82, getL l' 83, getL l' 84, getL l' 85, undef] ∧ Hp sb s F0 s' [Ck.ol (Ow.sl OI 3) 22 A3 c3 x3309] ∧ x3309.length = x3.length) ((((p0.length : Int)) - (0)).toNat + 2) ⟨x3, (p0.length : Int), H, rfl, hH, rfl⟩ ?_
    rintro kf l' s4137 ⟨x3309, x3310, H, hl, hH, hl3309⟩ K4137 hK4137
    generalize getL l' 7 = j7, getL l' 14 = j14, getL l' 15 = j15, getL l' 16 = j16, getL l' 17 = j17, getL l' 18 = j18, getL l' 19 = j19, getL l' 20 = j20, getL l' 21 = j21, getL l' 22 = j22, getL l' 23 = j23, getL l' 24 = j24, getL l' 25 = j25, getL l' 26 = j26, getL l' 27 = j27, getL l' 28 = j28, getL l' 29 = j29, getL l' 30 = j30, getL l' 31 = j31, getL l' 32 = j32, getL l' 33 = j33, getL l' 34 = j34, getL l' 35 = j35, getL l' 36 = j36, getL l' 37 = j37, getL l' 38 = j38, getL l' 39 = j39, getL l' 40 = j40, getL l' 41 = j41, getL l' 42 = j42, getL l' 43 = j43, getL l' 44 = j44, getL l' 45 = j45, getL l' 46 = j46, getL l' 47 = j47, getL l' 48 = j48, getL l' 49 = j49, getL l' 50 = j50, getL l' 51 = j51, getL l' 52 = j52, getL l' 53 = j53, getL l' 54 = j54, getL l' 55 = j55, getL l' 56 = j56, getL l' 57 = j57, getL l' 58 = j58, getL l' 59 = j59, getL l' 60 = j60, getL l' 61 = j61, getL l' 62 = j62, getL l' 63 = j63, getL l' 64 = j64, getL l' 65 = j65, getL l' 66 = j66, getL l' 67 = j67, getL l' 68 = j68, getL l' 69 = j69, getL l' 70 = j70, getL l' 71 = j71, getL l' 72 = j72, getL l' 73 = j73, getL l' 74 = j74, getL l' 75 = j75, getL l' 76 = j76, getL l' 77 = j77, getL l' 78 = j78, getL l' 79 = j79, getL l' 80 = j80, getL l' 81 = j81, getL l' 82 = j82, getL l' 83 = j83, getL l' 84 = j84, getL l' 85 = j85 at hl
    subst hl
    cases kf with
    | zero => simp [spec_l15Common.l1] at H
    | succ kf =>
      rw [spec_l15Common.l1] at H
      refine HT_seq_k ?_
      intro K4138 hK4138
      refine HT_seq_k ?_
      intro K4139 hK4139
      refine HT_region ?_
      refine HL_cons rfl ?_
      refine o_move ?_
      try dsimp only [putL, setL, evL, getL]
      refine HL_cons rfl ?_
      refine o_bin rfl rfl rfl ?_
      try dsimp only [putL, setL, evL, getL]
      refine HL_nil ?_
      refine hK4139 _ _ ?_
      rcases Bool.eq_false_or_eq_true (decide (x3310 ≥ 0)) with hb4140 | hb4140
      · replace H := iteT hb4140 H
        refine HT_true (congrArg Value.bool hb4140) ?_
        refine HT_skip ?_
        refine hK4138 _ _ ?_
        refine joinH H fun G4141 hG4141 H => ?_
        refine HT_joinK (fun l' s' => ∃ (x4551 : List (List (Int))), G4141 x4551 = some r ∧ l' = [.slice A0p p0.length c0p, .slice A1p p1.length c1p, undef, undef, .slice none 0 0, .slice A3 x3.length c3, .int .i64 x3310, getL l' 7, .slice A0p p0.length c0p, .int .i64 (p0.length : Int), .int .i64 (IntKind.i64.wrap ((p0.length : Int) + 1)), .slice A3 x3.length c3, .slice A0p p0.length c0p, .int .i64 (p0.length : Int), .int .i64 x3310, .bool (decide (x3310 ≥ 0)), j16, j17, getL l' 18, getL l' 19, getL l' 20, getL l' 21, getL l' 22, getL l' 23, getL l' 24, getL l' 25, getL l' 26, getL l' 27, getL l' 28, getL l' 29, getL l' 30, getL l' 31, getL l' 32, getL l' 33, getL l' 34, getL l' 35, getL l' 36, getL l' 37, getL l' 38, getL l' 39, getL l' 40, getL l' 41, getL l' 42, getL l' 43, getL l' 44, getL l' 45, getL l' 46, getL l' 47, getL l' 48, getL l' 49, getL l' 50, getL l' 51, getL l' 52, getL l' 53, getL l' 54, getL l' 55, getL l' 56, getL l' 57, getL l' 58, getL l' 59, getL l' 60, getL l' 61, getL l' 62, getL l' 63, getL l' 64, getL l' 65, getL l' 66, getL l' 67, getL l' 68, getL l' 69, getL l' 70, getL l' 71, getL l' 72, getL l' 73, getL l' 74, getL l' 75, getL l' 76, getL l' 77, getL l' 78, getL l' 79, getL l' 80, getL l' 81, getL l' 82, getL l' 83, getL l' 84, getL l' 85, undef] ∧ Hp sb s F0 s' [Ck.ol (Ow.sl OI 3) 22 A3 c3 x4551] ∧ x4551.length = x3.length) ?_ ?_
        · intro K4141 hK4141
          refine HT_block ?_
          refine HT_seq_k ?_
          intro K4552 hK4552
          refine HT_region ?_
          refine HL_cons rfl ?_
          refine o_move ?_
          try dsimp only [putL, setL, evL, getL]
          refine HL_cons rfl ?_
          refine o_move ?_
          try dsimp only [putL, setL, evL, getL]
          refine HL_cons rfl ?_
          refine o_move ?_
          try dsimp only [putL, setL, evL, getL]
          refine HL_cons rfl ?_
          refine o_len rfl Try.underlying22 ?_
          try dsimp only [putL, setL, evL, getL]
          refine HL_cons rfl ?_
          refine o_bin rfl rfl rfl ?_
          try dsimp only [putL, setL, evL, getL]
          obtain ⟨x4553, hx4553, H⟩ := headE H
          refine HL_cons rfl ?_
          refine o_makeH (K := KI) (O := OI) (x0 := 0) hH rfl Try.underlying22 tI3 rfl (by decide) (by decide) (by decide) (Own0.fl fun _ => rfl) hx4553 ?_
          intro A4553 c4553 s4553 hH' hG
          replace hH : Hp sb s F0 s4553 [Ck.ol (Ow.sl OI 3) 22 A3 c3 x3309, Ck.ol OI 3 A4553 c4553 x4553] := hH'
          clear hH' hG
          try dsimp only [putL, setL, evL, getL]
          obtain ⟨u4554, hu4554, H⟩ := headE H
          obtain ⟨b4554, o4554, cs4554, hA4554, hr4554, hh4554, hel4554⟩ := hH.elo 0 rfl hu4554
          obtain ⟨A4555, c4555, rfl, D4555⟩ := hr4554
          refine HL_cons rfl ?_
          refine hel4554 s4553 (sliceLen hl3309) rfl Try.underlying148 tI22 ?_
          try dsimp only [putL, setL, evL, getL]
          replace hH := hH.conv [1] (by decide) (d := Ck.el (Ow.sl OI 3) [.slice A4553 x4553.length c4553] x4553) Ent.sl
          dsimp only [addC, setC, rmC, selC, getC] at hH
          obtain ⟨x4556, hx4556, H⟩ := headE H
          refine HL_cons rfl ?_
          refine o_setD (u := x4553) hH 0 2 (by decide) rfl rfl rfl rfl rfl rfl tI22 hA4554 hx4556 ?_
          intro s4556 hH'
          have hl4556 := (st?_len hx4556).trans hl3309
          replace hH : Hp sb s F0 s4556 [Ck.ol (Ow.sl OI 3) 22 A3 c3 x4556, Ck.emp, Ck.emp] := hH'
          clear hH'
          try dsimp only [putL, setL, evL, getL]
          refine HL_nil ?_
          refine hK4552 _ _ ?_
          refine HT_seq_k ?_
          intro K4557 hK4557
          refine HT_region ?_
          refine HL_cons rfl ?_
          refine o_move ?_
          try dsimp only [putL, setL, evL, getL]
          refine HL_cons rfl ?_
          refine o_len rfl Try.underlying22 ?_
          try dsimp only [putL, setL, evL, getL]
          refine HL_cons rfl ?_
          refine o_bin rfl rfl rfl ?_
          try dsimp only [putL, setL, evL, getL]
          refine HL_cons rfl ?_
          refine o_assign ?_
          try dsimp only [putL, setL, evL, getL]
          refine HL_nil ?_
          refine hK4557 _ _ ?_
          refine joinH H fun G4558 hG4558 H => ?_
          refine HT_toK (fun l' s' => ∃ (x4759 : List (List (Int))), G4558 x4759 = some r ∧ l' = [.slice A0p p0.length c0p, .slice A1p p1.length c1p, undef, undef, .slice none 0 0, .slice A3 x3.length c3, .int .i64 x3310, getL l' 7, .slice A0p p0.length c0p, .int .i64 (p0.length : Int), .int .i64 (IntKind.i64.wrap ((p0.length : Int) + 1)), .slice A3 x3.length c3, .slice A0p p0.length c0p, .int .i64 (p0.length : Int), .int .i64 x3310, .bool (decide (x3310 ≥ 0)), j16, j17, .slice A3 x3.length c3, .int .i64 x3310, .slice A1p p1.length c1p, .int .i64 (p1.length : Int), .int .i64 (IntKind.i64.wrap ((p1.length : Int) + 1)), .slice A4553 x4553.length c4553, .pointer (some ⟨b4554, o4554 + Int.toNat x3310 * Kd.sz (Kd.sl KI), none⟩), .slice A1p p1.length c1p, .int .i64 (p1.length : Int), .int .i64 (IntKind.i64.wrap ((p1.length : Int) - 1)), getL l' 28, getL l' 29, getL l' 30, getL l' 31, getL l' 32, getL l' 33, getL l' 34, getL l' 35, getL l' 36, getL l' 37, getL l' 38, getL l' 39, getL l' 40, getL l' 41, getL l' 42, getL l' 43, getL l' 44, getL l' 45, getL l' 46, getL l' 47, getL l' 48, getL l' 49, getL l' 50, getL l' 51, getL l' 52, getL l' 53, getL l' 54, getL l' 55, getL l' 56, getL l' 57, getL l' 58, getL l' 59, getL l' 60, getL l' 61, getL l' 62, getL l' 63, getL l' 64, getL l' 65, getL l' 66, getL l' 67, getL l' 68, getL l' 69, getL l' 70, getL l' 71, getL l' 72, getL l' 73, getL l' 74, getL l' 75, getL l' 76, getL l' 77, getL l' 78, getL l' 79, getL l' 80, getL l' 81, getL l' 82, getL l' 83, getL l' 84, getL l' 85, undef] ∧ Hp sb s F0 s' [Ck.ol (Ow.sl OI 3) 22 A3 c3 x4759] ∧ x4759.length = x3.length) ?_ ?_
          · intro K4558 hK4558
            refine HT_block ?_
            refine HT_loopK (fun kf l' s' => ∃ (x4825 : List (List (Int))) (x4826 : Int), (spec_l15Common.l2 p0 p1 x3310 kf x4825 x4826).bind G4558 = some r ∧ l' = [.slice A0p p0.length c0p, .slice A1p p1.length c1p, undef, undef, .slice none 0 0, .slice A3 x3.length c3, .int .i64 x3310, .int .i64 x4826, .slice A0p p0.length c0p, .int .i64 (p0.length : Int), .int .i64 (IntKind.i64.wrap ((p0.length : Int) + 1)), .slice A3 x3.length c3, .slice A0p p0.length c0p, .int .i64 (p0.length : Int), .int .i64 x3310, .bool (decide (x3310 ≥ 0)), j16, j17, .slice A3 x3.length c3, .int .i64 x3310, .slice A1p p1.length c1p, .int .i64 (p1.length : Int), .int .i64 (IntKind.i64.wrap ((p1.length : Int) + 1)), .slice A4553 x4553.length c4553, .pointer (some ⟨b4554, o4554 + Int.toNat x3310 * Kd.sz (Kd.sl KI), none⟩), .slice A1p p1.length c1p, .int .i64 (p1.length : Int), .int .i64 (IntKind.i64.wrap ((p1.length : Int) - 1)), getL l' 28, getL l' 29, getL l' 30, getL l' 31, getL l' 32, getL l' 33, getL l' 34, getL l' 35, getL l' 36, getL l' 37, getL l' 38, getL l' 39, getL l' 40, getL l' 41, getL l' 42, getL l' 43, getL l' 44, getL l' 45, getL l' 46, getL l' 47, getL l' 48, getL l' 49, getL l' 50, getL l' 51, getL l' 52, getL l' 53, getL l' 54, getL l' 55, getL l' 56, getL l' 57, getL l' 58, getL l' 59, getL l' 60, getL l' 61, getL l' 62, getL l' 63, getL l' 64, getL l' 65, getL l' 66, getL l' 67, getL l' 68, getL l' 69, getL l' 70, getL l' 71, getL l' 72, getL l' 73, getL l' 74, getL l' 75, getL l' 76, getL l' 77, getL l' 78, getL l' 79, getL l' 80, getL l' 81, getL l' 82, getL l' 83, getL l' 84, getL l' 85, undef] ∧ Hp sb s F0 s' [Ck.ol (Ow.sl OI 3) 22 A3 c3 x4825] ∧ x4825.length = x3.length) (((IntKind.i64.wrap ((p1.length : Int) - 1)) - (0)).toNat + 2) ⟨x4556, IntKind.i64.wrap ((p1.length : Int) - 1), H, rfl, hH.sel [0] (by decide), hl4556⟩ ?_
            rintro kf l' s4894 ⟨x4825, x4826, H, hl, hH, hl4825⟩ K4894 hK4894
            generalize getL l' 28 = j28, getL l' 29 = j29, getL l' 30 = j30, getL l' 31 = j31, getL l' 32 = j32, getL l' 33 = j33, getL l' 34 = j34, getL l' 35 = j35, getL l' 36 = j36, getL l' 37 = j37, getL l' 38 = j38, getL l' 39 = j39, getL l' 40 = j40, getL l' 41 = j41, getL l' 42 = j42, getL l' 43 = j43, getL l' 44 = j44, getL l' 45 = j45, getL l' 46 = j46, getL l' 47 = j47, getL l' 48 = j48, getL l' 49 = j49, getL l' 50 = j50, getL l' 51 = j51, getL l' 52 = j52, getL l' 53 = j53, getL l' 54 = j54, getL l' 55 = j55, getL l' 56 = j56, getL l' 57 = j57, getL l' 58 = j58, getL l' 59 = j59, getL l' 60 = j60, getL l' 61 = j61, getL l' 62 = j62, getL l' 63 = j63, getL l' 64 = j64, getL l' 65 = j65, getL l' 66 = j66, getL l' 67 = j67, getL l' 68 = j68, getL l' 69 = j69, getL l' 70 = j70, getL l' 71 = j71, getL l' 72 = j72, getL l' 73 = j73, getL l' 74 = j74, getL l' 75 = j75, getL l' 76 = j76, getL l' 77 = j77, getL l' 78 = j78, getL l' 79 = j79, getL l' 80 = j80, getL l' 81 = j81, getL l' 82 = j82, getL l' 83 = j83, getL l' 84 = j84, getL l' 85 = j85 at hl
            subst hl
            cases kf with
            | zero => simp [spec_l15Common.l2] at H
            | succ kf =>
              rw [spec_l15Common.l2] at H
              refine HT_seq_k ?_
              intro K4902 hK4902
              refine joinH H fun G4903 hG4903 H => ?_
              refine HT_joinK (fun l' s' => ∃ (x4905 : Bool), G4903 x4905 = some r ∧ l' = [.slice A0p p0.length c0p, .slice A1p p1.length c1p, undef, undef, .slice none 0 0, .slice A3 x3.length c3, .int .i64 x3310, .int .i64 x4826, .slice A0p p0.length c0p, .int .i64 (p0.length : Int), .int .i64 (IntKind.i64.wrap ((p0.length : Int) + 1)), .slice A3 x3.length c3, .slice A0p p0.length c0p, .int .i64 (p0.length : Int), .int .i64 x3310, .bool (decide (x3310 ≥ 0)), j16, j17, .slice A3 x3.length c3, .int .i64 x3310, .slice A1p p1.length c1p, .int .i64 (p1.length : Int), .int .i64 (IntKind.i64.wrap ((p1.length : Int) + 1)), .slice A4553 x4553.length c4553, .pointer (some ⟨b4554, o4554 + Int.toNat x3310 * Kd.sz (Kd.sl KI), none⟩), .slice A1p p1.length c1p, .int .i64 (p1.length : Int), .int .i64 (IntKind.i64.wrap ((p1.length : Int) - 1)), getL l' 28, getL l' 29, getL l' 30, getL l' 31, getL l' 32, getL l' 33, getL l' 34, .bool x4905, j36, j37, j38, j39, j40, j41, j42, j43, j44, j45, j46, j47, j48, j49, j50, j51, j52, j53, j54, j55, j56, j57, j58, j59, j60, j61, j62, j63, j64, j65, j66, j67, j68, j69, j70, j71, j72, j73, j74, j75, j76, j77, j78, j79, j80, j81, j82, j83, j84, j85, undef] ∧ Hp sb s F0 s' [Ck.ol (Ow.sl OI 3) 22 A3 c3 x4825]) ?_ ?_
              · intro K4903 hK4903
                refine HT_region ?_
                refine HL_cons rfl ?_
                refine o_move ?_
                try dsimp only [putL, setL, evL, getL]
                refine HL_cons rfl ?_
                refine o_bin rfl rfl rfl ?_
                try dsimp only [putL, setL, evL, getL]
                refine HL_cons rfl ?_
                refine o_move ?_
                try dsimp only [putL, setL, evL, getL]
                rcases Bool.eq_false_or_eq_true (decide (x4826 ≥ 0)) with hb4906 | hb4906
                · replace H := iteT hb4906 H
                  refine HL_want ?_ ?_
                  · exact wantT (j := 2) (b := true) (t := 30) (c := decide (x4826 ≥ 0)) rfl rfl rfl rfl hb4906
                  refine o_move ?_
                  try dsimp only [putL, setL, evL, getL]
                  refine HL_want ?_ ?_
                  · exact wantT (j := 2) (b := true) (t := 30) (c := decide (x4826 ≥ 0)) rfl rfl rfl rfl hb4906
                  refine o_move ?_
                  try dsimp only [putL, setL, evL, getL]
                  refine HL_want ?_ ?_
                  · exact wantT (j := 2) (b := true) (t := 30) (c := decide (x4826 ≥ 0)) rfl rfl rfl rfl hb4906
                  refine o_len rfl Try.underlying22 ?_
                  try dsimp only [putL, setL, evL, getL]
                  refine HL_want ?_ ?_
                  · exact wantT (j := 2) (b := true) (t := 30) (c := decide (x4826 ≥ 0)) rfl rfl rfl rfl hb4906
                  refine o_bin rfl rfl rfl ?_
                  try dsimp only [putL, setL, evL, getL]
                  refine HL_cons rfl ?_
                  refine o_pickT rfl hb4906 ?_
                  try dsimp only [putL, setL, evL, getL]
                  refine HL_nil ?_
                  exact hK4903 _ _ ⟨decide (x3310 < (p0.length : Int)), H, rfl, hH⟩
                · replace H := iteF hb4906 H
                  refine HL_skip ?_ ?_
                  · exact wantF (j := 2) (b := true) (t := 30) (c := decide (x4826 ≥ 0)) rfl rfl rfl rfl hb4906
                  try dsimp only [putL, setL, evL, getL]
                  refine HL_skip ?_ ?_
                  · exact wantF (j := 2) (b := true) (t := 30) (c := decide (x4826 ≥ 0)) rfl rfl rfl rfl hb4906
                  try dsimp only [putL, setL, evL, getL]
                  refine HL_skip ?_ ?_
                  · exact wantF (j := 2) (b := true) (t := 30) (c := decide (x4826 ≥ 0)) rfl rfl rfl rfl hb4906
                  try dsimp only [putL, setL, evL, getL]
                  refine HL_skip ?_ ?_
                  · exact wantF (j := 2) (b := true) (t := 30) (c := decide (x4826 ≥ 0)) rfl rfl rfl rfl hb4906
                  try dsimp only [putL, setL, evL, getL]
                  refine HL_cons rfl ?_
                  refine o_pickF rfl hb4906 ?_
                  try dsimp only [putL, setL, evL, getL]
                  refine HL_nil ?_
                  exact hK4903 _ _ ⟨false, H, rfl, hH⟩
              · rintro l' s4907 ⟨x4905, H, hl, hH⟩
                generalize getL l' 28 = j28, getL l' 29 = j29, getL l' 30 = j30, getL l' 31 = j31, getL l' 32 = j32, getL l' 33 = j33, getL l' 34 = j34 at hl
                subst hl
                replace H := hG4903 _ H
                try dsimp only at H
                rcases Bool.eq_false_or_eq_true x4905 with hb4908 | hb4908
                · replace H := iteT hb4908 H
                  refine HT_true (congrArg Value.bool hb4908) ?_
                  refine HT_skip ?_
                  refine hK4902 _ _ ?_
                  refine joinH H fun G4909 hG4909 H => ?_
                  refine HT_joinK (fun l' s' => ∃ (x4934 : List (List (Int))), G4909 x4934 = some r ∧ l' = [.slice A0p p0.length c0p, .slice A1p p1.length c1p, undef, undef, .slice none 0 0, .slice A3 x3.length c3, .int .i64 x3310, .int .i64 x4826, .slice A0p p0.length c0p, .int .i64 (p0.length : Int), .int .i64 (IntKind.i64.wrap ((p0.length : Int) + 1)), .slice A3 x3.length c3, .slice A0p p0.length c0p, .int .i64 (p0.length : Int), .int .i64 x3310, .bool (decide (x3310 ≥ 0)), j16, j17, .slice A3 x3.length c3, .int .i64 x3310, .slice A1p p1.length c1p, .int .i64 (p1.length : Int), .int .i64 (IntKind.i64.wrap ((p1.length : Int) + 1)), .slice A4553 x4553.length c4553, .pointer (some ⟨b4554, o4554 + Int.toNat x3310 * Kd.sz (Kd.sl KI), none⟩), .slice A1p p1.length c1p, .int .i64 (p1.length : Int), .int .i64 (IntKind.i64.wrap ((p1.length : Int) - 1)), j28, j29, j30, j31, j32, j33, j34, .bool x4905, j36, j37, getL l' 38, getL l' 39, getL l' 40, getL l' 41, getL l' 42, getL l' 43, getL l' 44, getL l' 45, getL l' 46, getL l' 47, getL l' 48, getL l' 49, getL l' 50, getL l' 51, getL l' 52, getL l' 53, getL l' 54, getL l' 55, getL l' 56, getL l' 57, getL l' 58, getL l' 59, getL l' 60, getL l' 61, getL l' 62, getL l' 63, getL l' 64, getL l' 65, getL l' 66, getL l' 67, getL l' 68, getL l' 69, getL l' 70, getL l' 71, getL l' 72, getL l' 73, getL l' 74, getL l' 75, getL l' 76, getL l' 77, getL l' 78, getL l' 79, getL l' 80, getL l' 81, getL l' 82, getL l' 83, getL l' 84, getL l' 85, undef] ∧ Hp sb s F0 s' [Ck.ol (Ow.sl OI 3) 22 A3 c3 x4934] ∧ x4934.length = x3.length) ?_ ?_
                  · intro K4909 hK4909
                    refine HT_block ?_
                    refine HT_seq_k ?_
                    intro K4935 hK4935
                    refine HK_draw (fun s' => Gro s4907 s') 10 hMix ?_
                    have hR := Gro.refl s4907
                    have hH0 := hH
                    refine HK_readP 0 (v := .slice A0p p0.length c0p) rfl (by kernel_rfl) (fun c l s h => hQp c l s h) rfl (fun s' K hK => ?_) rfl rfl (fun _ => hR) ?_
                    · refine o_move ?_
                      exact hK
                    try dsimp only [putL, setL, evL, getL]
                    refine HK_readP 1 (v := .int .i64 x3310) rfl (by kernel_rfl) (fun c l s h => hQp c l s h) rfl (fun s' K hK => ?_) rfl rfl (fun _ => hR) ?_
                    · refine o_move ?_
                      exact hK
                    try dsimp only [putL, setL, evL, getL]
                    obtain ⟨u4936, hu4936, H⟩ := headE H
                    obtain ⟨b4936, o4936, cs4936, hr4936, hh4936, hel4936⟩ := Rd.elb HRp0 hu4936
                    obtain rfl := hr4936
                    refine HK_readP 2 (v := .pointer (some ⟨b4936, o4936, none⟩)) rfl (by kernel_rfl) (fun c l s h => hQp c l s h) rfl (fun s' K hK => ?_) rfl rfl (fun _ => hR) ?_
                    · refine hel4936 s' rfl rfl Try.underlying22 tI3 ?_
                      exact hK
                    try dsimp only [putL, setL, evL, getL]
                    refine HK_read 3 (v := .int .i64 u4936) rfl (by kernel_rfl) (fun c l s h => hQp c l s h) rfl (fun s' hR' K hK => ?_) rfl rfl hR ?_
                    · refine o_load' rfl Try.underlying3 rfl ((hh4936 (hH0.bs.mono.trans hR'.mono)) 0 _ rfl) ?_
                      exact hK
                    try dsimp only [putL, setL, evL, getL]
                    refine HK_readP 4 (v := .slice A1p p1.length c1p) rfl (by kernel_rfl) (fun c l s h => hQp c l s h) rfl (fun s' K hK => ?_) rfl rfl (fun _ => hR) ?_
                    · refine o_move ?_
                      exact hK
                    try dsimp only [putL, setL, evL, getL]
                    refine HK_readP 5 (v := .int .i64 x4826) rfl (by kernel_rfl) (fun c l s h => hQp c l s h) rfl (fun s' K hK => ?_) rfl rfl (fun _ => hR) ?_
                    · refine o_move ?_
                      exact hK
                    try dsimp only [putL, setL, evL, getL]
                    obtain ⟨u4937, hu4937, H⟩ := headE H
                    obtain ⟨b4937, o4937, cs4937, hr4937, hh4937, hel4937⟩ := Rd.elb HRp1 hu4937
                    obtain rfl := hr4937
                    refine HK_readP 6 (v := .pointer (some ⟨b4937, o4937, none⟩)) rfl (by kernel_rfl) (fun c l s h => hQp c l s h) rfl (fun s' K hK => ?_) rfl rfl (fun _ => hR) ?_
                    · refine hel4937 s' rfl rfl Try.underlying22 tI3 ?_
                      exact hK
                    try dsimp only [putL, setL, evL, getL]
                    refine HK_read 7 (v := .int .i64 u4937) rfl (by kernel_rfl) (fun c l s h => hQp c l s h) rfl (fun s' hR' K hK => ?_) rfl rfl hR ?_
                    · refine o_load' rfl Try.underlying3 rfl ((hh4937 (hH0.bs.mono.trans hR'.mono)) 0 _ rfl) ?_
                      exact hK
                    try dsimp only [putL, setL, evL, getL]
                    refine HK_readP 8 (v := .bool (u4936 == u4937)) rfl (by kernel_rfl) (fun c l s h => hQp c l s h) rfl (fun s' K hK => ?_) rfl rfl (fun _ => hR) ?_
                    · refine o_bin rfl rfl rfl ?_
                      exact hK
                    try dsimp only [putL, setL, evL, getL]
                    refine HK_done (fun _ => hR) (by kernel_rfl) ?_
                    refine hK4935 _ _ ?_
                    rcases Bool.eq_false_or_eq_true (u4936 == u4937) with hb4938 | hb4938
                    · replace H := iteT hb4938 H
                      refine HT_true (congrArg Value.bool hb4938) ?_
                      refine HK_draw (fun s' => Gro s4907 s') 16 hMix ?_
                      have hR := Gro.refl s4907
                      have hH0 := hH
                      refine HK_readP 5 (v := .slice A3 x3.length c3) rfl (by kernel_rfl) (fun c l s h => hQp c l s h) rfl (fun s' K hK => ?_) rfl rfl (fun _ => hR) ?_
                      · refine o_move ?_
                        exact hK
                      try dsimp only [putL, setL, evL, getL]
                      refine HK_readP 6 (v := .int .i64 x3310) rfl (by kernel_rfl) (fun c l s h => hQp c l s h) rfl (fun s' K hK => ?_) rfl rfl (fun _ => hR) ?_
                      · refine o_move ?_
                        exact hK
                      try dsimp only [putL, setL, evL, getL]
                      refine HK_readP 7 (v := .int .i64 (IntKind.i64.wrap (x3310 + 1))) rfl (by kernel_rfl) (fun c l s h => hQp c l s h) rfl (fun s' K hK => ?_) rfl rfl (fun _ => hR) ?_
                      · refine o_bin rfl rfl rfl ?_
                        exact hK
                      try dsimp only [putL, setL, evL, getL]
                      obtain ⟨u4939, hu4939, H⟩ := headE H
                      obtain ⟨b4939, o4939, cs4939, hA4939, hr4939, hh4939, hel4939⟩ := hH0.elo 0 rfl hu4939
                      obtain ⟨A4940, c4940, rfl, D4940⟩ := hr4939
                      refine HK_readP 8 (v := .pointer (some ⟨b4939, o4939 + Int.toNat (IntKind.i64.wrap (x3310 + 1)) * Kd.sz (Kd.sl KI), none⟩)) rfl (by kernel_rfl) (fun c l s h => hQp c l s h) rfl (fun s' K hK => ?_) rfl rfl (fun _ => hR) ?_
                      · refine hel4939 s' (sliceLen hl4825) rfl Try.underlying148 tI22 ?_
                        exact hK
                      try dsimp only [putL, setL, evL, getL]
                      refine HK_read 9 (v := .slice A4940 u4939.length c4940) rfl (by kernel_rfl) (fun c l s h => hQp c l s h) rfl (fun s' hR' K hK => ?_) rfl rfl hR ?_
                      · refine o_load' rfl Try.underlying22 rfl (has_gro hR' (hh4939 0 _ rfl)) ?_
                        exact hK
                      try dsimp only [putL, setL, evL, getL]
                      refine HK_readP 10 (v := .int .i64 x4826) rfl (by kernel_rfl) (fun c l s h => hQp c l s h) rfl (fun s' K hK => ?_) rfl rfl (fun _ => hR) ?_
                      · refine o_move ?_
                        exact hK
                      try dsimp only [putL, setL, evL, getL]
                      refine HK_readP 11 (v := .int .i64 (IntKind.i64.wrap (x4826 + 1))) rfl (by kernel_rfl) (fun c l s h => hQp c l s h) rfl (fun s' K hK => ?_) rfl rfl (fun _ => hR) ?_
                      · refine o_bin rfl rfl rfl ?_
                        exact hK
                      try dsimp only [putL, setL, evL, getL]
                      obtain ⟨u4941, hu4941, H⟩ := headE H
                      obtain ⟨b4941, o4941, cs4941, hr4941, hh4941, hel4941⟩ := Rd.el D4940 hu4941
                      obtain rfl := hr4941
                      refine HK_readP 12 (v := .pointer (some ⟨b4941, o4941, none⟩)) rfl (by kernel_rfl) (fun c l s h => hQp c l s h) rfl (fun s' K hK => ?_) rfl rfl (fun _ => hR) ?_
                      · refine hel4941 s' rfl rfl Try.underlying22 tI3 ?_
                        exact hK
                      try dsimp only [putL, setL, evL, getL]
                      refine HK_read 13 (v := .int .i64 u4941) rfl (by kernel_rfl) (fun c l s h => hQp c l s h) rfl (fun s' hR' K hK => ?_) rfl rfl hR ?_
                      · refine o_load' rfl Try.underlying3 rfl (has_gro hR' (hh4941 0 _ rfl)) ?_
                        exact hK
                      try dsimp only [putL, setL, evL, getL]
                      refine HK_readP 14 (v := .int .i64 (IntKind.i64.wrap (u4941 + 1))) rfl (by kernel_rfl) (fun c l s h => hQp c l s h) rfl (fun s' K hK => ?_) rfl rfl (fun _ => hR) ?_
                      · refine o_bin rfl rfl rfl ?_
                        exact hK
                      try dsimp only [putL, setL, evL, getL]
                      refine HK_readP 0 (v := .slice A3 x3.length c3) rfl (by kernel_rfl) (fun c l s h => hQp c l s h) rfl (fun s' K hK => ?_) rfl rfl (fun _ => hR) ?_
                      · refine o_move ?_
                        exact hK
                      try dsimp only [putL, setL, evL, getL]
                      refine HK_readP 1 (v := .int .i64 x3310) rfl (by kernel_rfl) (fun c l s h => hQp c l s h) rfl (fun s' K hK => ?_) rfl rfl (fun _ => hR) ?_
                      · refine o_move ?_
                        exact hK
                      try dsimp only [putL, setL, evL, getL]
                      obtain ⟨u4942, hu4942, H⟩ := headE H
                      obtain ⟨b4942, o4942, vs4942, hA4942, -, hH⟩ := hH.open 0 rfl rfl hu4942
                      dsimp only [addC, setC, rmC, selC, getC] at hH
                      obtain ⟨A4943, c4943, rfl, hH⟩ := hH.el_sl 1 rfl rfl
                      dsimp only [addC, setC, rmC, selC, getC] at hH
                      replace hH : Hp sb s F0 s4907 [Ck.oh (Ow.sl OI 3) 22 A3 c3 x4825 (Int.toNat x3310) [.slice A4943 u4942.length c4943], Ck.ol OI 3 A4943 c4943 u4942] := hH
                      refine HK_readP 2 (v := .pointer (some ⟨b4942, o4942 + Int.toNat x3310 * Kd.sz (Kd.sl KI), none⟩)) rfl (by kernel_rfl) (fun c l s h => hQp c l s h) rfl (fun s' K hK => ?_) rfl rfl (fun _ => hR) ?_
                      · refine iaddr_of (K := (Kd.sl KI)) hA4942 hu4942 s' (sliceLen hl4825) rfl Try.underlying148 tI22 ?_
                        exact hK
                      try dsimp only [putL, setL, evL, getL]
                      refine HK_read 3 (v := .slice A4943 u4942.length c4943) rfl (by kernel_rfl) (fun c l s h => hQp c l s h) rfl (fun s' hR' K hK => ?_) rfl rfl hR ?_
                      · refine o_load' rfl Try.underlying22 rfl (has_gro hR' (hH.hasoh 0 rfl hA4942 0 _ rfl)) ?_
                        exact hK
                      try dsimp only [putL, setL, evL, getL]
                      refine HK_readP 4 (v := .int .i64 x4826) rfl (by kernel_rfl) (fun c l s h => hQp c l s h) rfl (fun s' K hK => ?_) rfl rfl (fun _ => hR) ?_
                      · refine o_move ?_
                        exact hK
                      try dsimp only [putL, setL, evL, getL]
                      obtain ⟨u4944, hu4944, H⟩ := headE H
                      obtain ⟨b4944, o4944, cs4944, hA4944, hr4944, hh4944, hel4944⟩ := hH.elo 1 rfl hu4944
                      obtain rfl := hr4944
                      refine HK_readP 15 (v := .pointer (some ⟨b4944, o4944 + Int.toNat x4826 * Kd.sz KI, none⟩)) rfl (by kernel_rfl) (fun c l s h => hQp c l s h) rfl (fun s' K hK => ?_) rfl rfl (fun _ => hR) ?_
                      · refine hel4944 s' rfl rfl Try.underlying22 tI3 ?_
                        exact hK
                      try dsimp only [putL, setL, evL, getL]
                      obtain ⟨x4945, hx4945, H⟩ := headE H
                      refine HK_one 16 (by kernel_rfl) rfl (fun _ => hR) rfl ?_
                      refine o_setF (vs := [.int .i64 (IntKind.i64.wrap (u4941 + 1))]) (u := IntKind.i64.wrap (u4941 + 1)) hH 1 rfl rfl rfl rfl rfl tI3 hA4944 hx4945 (Ent.own (Ent.flat rfl)) ?_
                      intro s4945 hH'
                      have hl4945 := st?_len hx4945
                      replace hH : Hp sb s F0 s4945 [Ck.oh (Ow.sl OI 3) 22 A3 c3 x4825 (Int.toNat x3310) [.slice A4943 u4942.length c4943], Ck.ol OI 3 A4943 c4943 x4945] := hH'
                      clear hH'
                      try dsimp only [putL, setL, evL, getL]
                      refine HK_done' (by kernel_rfl) (by kernel_rfl) ?_
                      replace hH := hH.conv [1] (by decide) (d := Ck.el (Ow.sl OI 3) [.slice A4943 u4942.length c4943] x4945) (Ent.slL hl4945)
                      dsimp only [addC, setC, rmC, selC, getC] at hH
                      obtain ⟨x4946, hx4946, H⟩ := headE H
                      replace hH := hH.close (i := x3310) 0 2 (by decide) rfl rfl rfl hx4946
                      dsimp only [addC, setC, rmC, selC, getC] at hH
                      have hl4946 := (st?_len hx4946).trans hl4825
                      replace hH : Hp sb s F0 s4945 [Ck.ol (Ow.sl OI 3) 22 A3 c3 x4946, Ck.emp, Ck.emp] := hH
                      exact hK4909 _ _ ⟨x4946, H, rfl, hH.sel [0] (by decide), hl4946⟩
                    · replace H := iteF hb4938 H
                      refine HT_false (congrArg Value.bool hb4938) ?_
                      refine HK_draw (fun s' => Gro s4907 s') 23 hMix ?_
                      have hR := Gro.refl s4907
                      have hH0 := hH
                      refine HK_readP 5 (v := .slice A3 x3.length c3) rfl (by kernel_rfl) (fun c l s h => hQp c l s h) rfl (fun s' K hK => ?_) rfl rfl (fun _ => hR) ?_
                      · refine o_move ?_
                        exact hK
                      try dsimp only [putL, setL, evL, getL]
                      refine HK_readP 6 (v := .int .i64 x3310) rfl (by kernel_rfl) (fun c l s h => hQp c l s h) rfl (fun s' K hK => ?_) rfl rfl (fun _ => hR) ?_
                      · refine o_move ?_
                        exact hK
                      try dsimp only [putL, setL, evL, getL]
                      refine HK_readP 7 (v := .int .i64 (IntKind.i64.wrap (x3310 + 1))) rfl (by kernel_rfl) (fun c l s h => hQp c l s h) rfl (fun s' K hK => ?_) rfl rfl (fun _ => hR) ?_
                      · refine o_bin rfl rfl rfl ?_
                        exact hK
                      try dsimp only [putL, setL, evL, getL]
                      obtain ⟨u4947, hu4947, H⟩ := headE H
                      obtain ⟨b4947, o4947, cs4947, hA4947, hr4947, hh4947, hel4947⟩ := hH0.elo 0 rfl hu4947
                      obtain ⟨A4948, c4948, rfl, D4948⟩ := hr4947
                      refine HK_readP 8 (v := .pointer (some ⟨b4947, o4947 + Int.toNat (IntKind.i64.wrap (x3310 + 1)) * Kd.sz (Kd.sl KI), none⟩)) rfl (by kernel_rfl) (fun c l s h => hQp c l s h) rfl (fun s' K hK => ?_) rfl rfl (fun _ => hR) ?_
                      · refine hel4947 s' (sliceLen hl4825) rfl Try.underlying148 tI22 ?_
                        exact hK
                      try dsimp only [putL, setL, evL, getL]
                      refine HK_read 9 (v := .slice A4948 u4947.length c4948) rfl (by kernel_rfl) (fun c l s h => hQp c l s h) rfl (fun s' hR' K hK => ?_) rfl rfl hR ?_
                      · refine o_load' rfl Try.underlying22 rfl (has_gro hR' (hh4947 0 _ rfl)) ?_
                        exact hK
                      try dsimp only [putL, setL, evL, getL]
                      refine HK_readP 10 (v := .int .i64 x4826) rfl (by kernel_rfl) (fun c l s h => hQp c l s h) rfl (fun s' K hK => ?_) rfl rfl (fun _ => hR) ?_
                      · refine o_move ?_
                        exact hK
                      try dsimp only [putL, setL, evL, getL]
                      obtain ⟨u4949, hu4949, H⟩ := headE H
                      obtain ⟨b4949, o4949, cs4949, hr4949, hh4949, hel4949⟩ := Rd.el D4948 hu4949
                      obtain rfl := hr4949
                      refine HK_readP 11 (v := .pointer (some ⟨b4949, o4949, none⟩)) rfl (by kernel_rfl) (fun c l s h => hQp c l s h) rfl (fun s' K hK => ?_) rfl rfl (fun _ => hR) ?_
                      · refine hel4949 s' rfl rfl Try.underlying22 tI3 ?_
                        exact hK
                      try dsimp only [putL, setL, evL, getL]
                      refine HK_read 12 (v := .int .i64 u4949) rfl (by kernel_rfl) (fun c l s h => hQp c l s h) rfl (fun s' hR' K hK => ?_) rfl rfl hR ?_
                      · refine o_load' rfl Try.underlying3 rfl (has_gro hR' (hh4949 0 _ rfl)) ?_
                        exact hK
                      try dsimp only [putL, setL, evL, getL]
                      refine HK_readP 13 (v := .slice A3 x3.length c3) rfl (by kernel_rfl) (fun c l s h => hQp c l s h) rfl (fun s' K hK => ?_) rfl rfl (fun _ => hR) ?_
                      · refine o_move ?_
                        exact hK
                      try dsimp only [putL, setL, evL, getL]
                      refine HK_readP 14 (v := .int .i64 x3310) rfl (by kernel_rfl) (fun c l s h => hQp c l s h) rfl (fun s' K hK => ?_) rfl rfl (fun _ => hR) ?_
                      · refine o_move ?_
                        exact hK
                      try dsimp only [putL, setL, evL, getL]
                      obtain ⟨u4950, hu4950, H⟩ := headE H
                      obtain ⟨b4950, o4950, cs4950, hA4950, hr4950, hh4950, hel4950⟩ := hH0.elo 0 rfl hu4950
                      obtain ⟨A4951, c4951, rfl, D4951⟩ := hr4950
                      refine HK_readP 15 (v := .pointer (some ⟨b4950, o4950 + Int.toNat x3310 * Kd.sz (Kd.sl KI), none⟩)) rfl (by kernel_rfl) (fun c l s h => hQp c l s h) rfl (fun s' K hK => ?_) rfl rfl (fun _ => hR) ?_
                      · refine hel4950 s' (sliceLen hl4825) rfl Try.underlying148 tI22 ?_
                        exact hK
                      try dsimp only [putL, setL, evL, getL]
                      refine HK_read 16 (v := .slice A4951 u4950.length c4951) rfl (by kernel_rfl) (fun c l s h => hQp c l s h) rfl (fun s' hR' K hK => ?_) rfl rfl hR ?_
                      · refine o_load' rfl Try.underlying22 rfl (has_gro hR' (hh4950 0 _ rfl)) ?_
                        exact hK
                      try dsimp only [putL, setL, evL, getL]
                      refine HK_readP 17 (v := .int .i64 x4826) rfl (by kernel_rfl) (fun c l s h => hQp c l s h) rfl (fun s' K hK => ?_) rfl rfl (fun _ => hR) ?_
                      · refine o_move ?_
                        exact hK
                      try dsimp only [putL, setL, evL, getL]
                      refine HK_readP 18 (v := .int .i64 (IntKind.i64.wrap (x4826 + 1))) rfl (by kernel_rfl) (fun c l s h => hQp c l s h) rfl (fun s' K hK => ?_) rfl rfl (fun _ => hR) ?_
                      · refine o_bin rfl rfl rfl ?_
                        exact hK
                      try dsimp only [putL, setL, evL, getL]
                      obtain ⟨u4952, hu4952, H⟩ := headE H
                      obtain ⟨b4952, o4952, cs4952, hr4952, hh4952, hel4952⟩ := Rd.el D4951 hu4952
                      obtain rfl := hr4952
                      refine HK_readP 19 (v := .pointer (some ⟨b4952, o4952, none⟩)) rfl (by kernel_rfl) (fun c l s h => hQp c l s h) rfl (fun s' K hK => ?_) rfl rfl (fun _ => hR) ?_
                      · refine hel4952 s' rfl rfl Try.underlying22 tI3 ?_
                        exact hK
                      try dsimp only [putL, setL, evL, getL]
                      refine HK_read 20 (v := .int .i64 u4952) rfl (by kernel_rfl) (fun c l s h => hQp c l s h) rfl (fun s' hR' K hK => ?_) rfl rfl hR ?_
                      · refine o_load' rfl Try.underlying3 rfl (has_gro hR' (hh4952 0 _ rfl)) ?_
                        exact hK
                      try dsimp only [putL, setL, evL, getL]
                      refine HK_readP 0 (v := .slice A3 x3.length c3) rfl (by kernel_rfl) (fun c l s h => hQp c l s h) rfl (fun s' K hK => ?_) rfl rfl (fun _ => hR) ?_
                      · refine o_move ?_
                        exact hK
                      try dsimp only [putL, setL, evL, getL]
                      refine HK_readP 1 (v := .int .i64 x3310) rfl (by kernel_rfl) (fun c l s h => hQp c l s h) rfl (fun s' K hK => ?_) rfl rfl (fun _ => hR) ?_
                      · refine o_move ?_
                        exact hK
                      try dsimp only [putL, setL, evL, getL]
                      obtain ⟨u4953, hu4953, H⟩ := headE H
                      obtain ⟨b4953, o4953, vs4953, hA4953, -, hH⟩ := hH.open 0 rfl rfl hu4953
                      dsimp only [addC, setC, rmC, selC, getC] at hH
                      obtain ⟨A4954, c4954, rfl, hH⟩ := hH.el_sl 1 rfl rfl
                      dsimp only [addC, setC, rmC, selC, getC] at hH
                      replace hH : Hp sb s F0 s4907 [Ck.oh (Ow.sl OI 3) 22 A3 c3 x4825 (Int.toNat x3310) [.slice A4954 u4953.length c4954], Ck.ol OI 3 A4954 c4954 u4953] := hH
                      refine HK_readP 2 (v := .pointer (some ⟨b4953, o4953 + Int.toNat x3310 * Kd.sz (Kd.sl KI), none⟩)) rfl (by kernel_rfl) (fun c l s h => hQp c l s h) rfl (fun s' K hK => ?_) rfl rfl (fun _ => hR) ?_
                      · refine iaddr_of (K := (Kd.sl KI)) hA4953 hu4953 s' (sliceLen hl4825) rfl Try.underlying148 tI22 ?_
                        exact hK
                      try dsimp only [putL, setL, evL, getL]
                      refine HK_read 3 (v := .slice A4954 u4953.length c4954) rfl (by kernel_rfl) (fun c l s h => hQp c l s h) rfl (fun s' hR' K hK => ?_) rfl rfl hR ?_
                      · refine o_load' rfl Try.underlying22 rfl (has_gro hR' (hH.hasoh 0 rfl hA4953 0 _ rfl)) ?_
                        exact hK
                      try dsimp only [putL, setL, evL, getL]
                      refine HK_readP 4 (v := .int .i64 x4826) rfl (by kernel_rfl) (fun c l s h => hQp c l s h) rfl (fun s' K hK => ?_) rfl rfl (fun _ => hR) ?_
                      · refine o_move ?_
                        exact hK
                      try dsimp only [putL, setL, evL, getL]
                      obtain ⟨u4955, hu4955, H⟩ := headE H
                      refine HK_one 21 (by kernel_rfl) rfl (fun _ => hR) rfl ?_
                      refine o_call (args := #[.int .i64 u4949, .int .i64 u4952]) Try.func150 rfl rfl rfl (spec_l1Most.ok sb s4907 no u4949 u4952 (Hp.own hH.bs) _ hu4955) ?_
                      rintro _ s4955 ⟨rfl, hD⟩
                      replace hR := hR.trans hD.gro
                      replace hH := hH.back0 hD (Up.refl _ _ _)
                      clear hD
                      dsimp only [addC, setC, rmC, selC, getC] at hH
                      try dsimp only [putL, setL, evL, getL]
                      obtain ⟨u4956, hu4956, H⟩ := headE H
                      obtain ⟨b4956, o4956, cs4956, hA4956, hr4956, hh4956, hel4956⟩ := hH.elo 1 rfl hu4956
                      obtain rfl := hr4956
                      refine HK_readP 22 (v := .pointer (some ⟨b4956, o4956 + Int.toNat x4826 * Kd.sz KI, none⟩)) rfl (by kernel_rfl) (fun c l s h => hQp c l s h) rfl (fun s' K hK => ?_) rfl rfl (fun _ => hR) ?_
                      · refine hel4956 s' rfl rfl Try.underlying22 tI3 ?_
                        exact hK
                      try dsimp only [putL, setL, evL, getL]
                      obtain ⟨x4957, hx4957, H⟩ := headE H
                      refine HK_one 23 (by kernel_rfl) rfl (fun _ => hR) rfl ?_
                      refine o_setF (vs := [.int .i64 u4955]) (u := u4955) hH 1 rfl rfl rfl rfl rfl tI3 hA4956 hx4957 (Ent.own (Ent.flat rfl)) ?_
                      intro s4957 hH'
                      have hl4957 := st?_len hx4957
                      replace hH : Hp sb s F0 s4957 [Ck.oh (Ow.sl OI 3) 22 A3 c3 x4825 (Int.toNat x3310) [.slice A4954 u4953.length c4954], Ck.ol OI 3 A4954 c4954 x4957] := hH'
                      clear hH'
                      try dsimp only [putL, setL, evL, getL]
                      refine HK_done' (by kernel_rfl) (by kernel_rfl) ?_
                      replace hH := hH.conv [1] (by decide) (d := Ck.el (Ow.sl OI 3) [.slice A4954 u4953.length c4954] x4957) (Ent.slL hl4957)
                      dsimp only [addC, setC, rmC, selC, getC] at hH
                      obtain ⟨x4958, hx4958, H⟩ := headE H
                      replace hH := hH.close (i := x3310) 0 2 (by decide) rfl rfl rfl hx4958
                      dsimp only [addC, setC, rmC, selC, getC] at hH
                      have hl4958 := (st?_len hx4958).trans hl4825
                      replace hH : Hp sb s F0 s4957 [Ck.ol (Ow.sl OI 3) 22 A3 c3 x4958, Ck.emp, Ck.emp] := hH
                      exact hK4909 _ _ ⟨x4958, H, rfl, hH.sel [0] (by decide), hl4958⟩
                  · rintro l' s4959 ⟨x4934, H, hl, hH, hl4934⟩
                    generalize getL l' 38 = j38, getL l' 39 = j39, getL l' 40 = j40, getL l' 41 = j41, getL l' 42 = j42, getL l' 43 = j43, getL l' 44 = j44, getL l' 45 = j45, getL l' 46 = j46, getL l' 47 = j47, getL l' 48 = j48, getL l' 49 = j49, getL l' 50 = j50, getL l' 51 = j51, getL l' 52 = j52, getL l' 53 = j53, getL l' 54 = j54, getL l' 55 = j55, getL l' 56 = j56, getL l' 57 = j57, getL l' 58 = j58, getL l' 59 = j59, getL l' 60 = j60, getL l' 61 = j61, getL l' 62 = j62, getL l' 63 = j63, getL l' 64 = j64, getL l' 65 = j65, getL l' 66 = j66, getL l' 67 = j67, getL l' 68 = j68, getL l' 69 = j69, getL l' 70 = j70, getL l' 71 = j71, getL l' 72 = j72, getL l' 73 = j73, getL l' 74 = j74, getL l' 75 = j75, getL l' 76 = j76, getL l' 77 = j77, getL l' 78 = j78, getL l' 79 = j79, getL l' 80 = j80, getL l' 81 = j81, getL l' 82 = j82, getL l' 83 = j83, getL l' 84 = j84, getL l' 85 = j85 at hl
                    subst hl
                    replace H := hG4909 _ H
                    try dsimp only at H
                    refine HT_region ?_
                    refine HL_cons rfl ?_
                    refine o_move ?_
                    try dsimp only [putL, setL, evL, getL]
                    refine HL_cons rfl ?_
                    refine o_bin rfl rfl rfl ?_
                    try dsimp only [putL, setL, evL, getL]
                    refine HL_cons rfl ?_
                    refine o_assign ?_
                    try dsimp only [putL, setL, evL, getL]
                    refine HL_nil ?_
                    exact hK4894 _ _ ⟨kf, Nat.lt_succ_self kf, x4934, IntKind.i64.wrap (x4826 - 1), H, rfl, hH, hl4934⟩
                · replace H := iteF hb4908 H
                  refine HT_false (congrArg Value.bool hb4908) ?_
                  refine HT_exit ?_
                  exact hK4558 _ _ ⟨x4825, H, rfl, hH, hl4825⟩
          · rintro l' s4960 ⟨x4759, H, hl, hH, hl4759⟩
            generalize getL l' 7 = j7, getL l' 28 = j28, getL l' 29 = j29, getL l' 30 = j30, getL l' 31 = j31, getL l' 32 = j32, getL l' 33 = j33, getL l' 34 = j34, getL l' 35 = j35, getL l' 36 = j36, getL l' 37 = j37, getL l' 38 = j38, getL l' 39 = j39, getL l' 40 = j40, getL l' 41 = j41, getL l' 42 = j42, getL l' 43 = j43, getL l' 44 = j44, getL l' 45 = j45, getL l' 46 = j46, getL l' 47 = j47, getL l' 48 = j48, getL l' 49 = j49, getL l' 50 = j50, getL l' 51 = j51, getL l' 52 = j52, getL l' 53 = j53, getL l' 54 = j54, getL l' 55 = j55, getL l' 56 = j56, getL l' 57 = j57, getL l' 58 = j58, getL l' 59 = j59, getL l' 60 = j60, getL l' 61 = j61, getL l' 62 = j62, getL l' 63 = j63, getL l' 64 = j64, getL l' 65 = j65, getL l' 66 = j66, getL l' 67 = j67, getL l' 68 = j68, getL l' 69 = j69, getL l' 70 = j70, getL l' 71 = j71, getL l' 72 = j72, getL l' 73 = j73, getL l' 74 = j74, getL l' 75 = j75, getL l' 76 = j76, getL l' 77 = j77, getL l' 78 = j78, getL l' 79 = j79, getL l' 80 = j80, getL l' 81 = j81, getL l' 82 = j82, getL l' 83 = j83, getL l' 84 = j84, getL l' 85 = j85 at hl
            subst hl
            replace H := hG4558 _ H
            try dsimp only at H
            exact hK4141 _ _ ⟨x4759, H, rfl, hH, hl4759⟩
        · rintro l' s4961 ⟨x4551, H, hl, hH, hl4551⟩
          generalize getL l' 7 = j7, getL l' 18 = j18, getL l' 19 = j19, getL l' 20 = j20, getL l' 21 = j21, getL l' 22 = j22, getL l' 23 = j23, getL l' 24 = j24, getL l' 25 = j25, getL l' 26 = j26, getL l' 27 = j27, getL l' 28 = j28, getL l' 29 = j29, getL l' 30 = j30, getL l' 31 = j31, getL l' 32 = j32, getL l' 33 = j33, getL l' 34 = j34, getL l' 35 = j35, getL l' 36 = j36, getL l' 37 = j37, getL l' 38 = j38, getL l' 39 = j39, getL l' 40 = j40, getL l' 41 = j41, getL l' 42 = j42, getL l' 43 = j43, getL l' 44 = j44, getL l' 45 = j45, getL l' 46 = j46, getL l' 47 = j47, getL l' 48 = j48, getL l' 49 = j49, getL l' 50 = j50, getL l' 51 = j51, getL l' 52 = j52, getL l' 53 = j53, getL l' 54 = j54, getL l' 55 = j55, getL l' 56 = j56, getL l' 57 = j57, getL l' 58 = j58, getL l' 59 = j59, getL l' 60 = j60, getL l' 61 = j61, getL l' 62 = j62, getL l' 63 = j63, getL l' 64 = j64, getL l' 65 = j65, getL l' 66 = j66, getL l' 67 = j67, getL l' 68 = j68, getL l' 69 = j69, getL l' 70 = j70, getL l' 71 = j71, getL l' 72 = j72, getL l' 73 = j73, getL l' 74 = j74, getL l' 75 = j75, getL l' 76 = j76, getL l' 77 = j77, getL l' 78 = j78, getL l' 79 = j79, getL l' 80 = j80, getL l' 81 = j81, getL l' 82 = j82, getL l' 83 = j83, getL l' 84 = j84, getL l' 85 = j85 at hl
          subst hl
          replace H := hG4141 _ H
          try dsimp only at H
          refine HT_region ?_
          refine HL_cons rfl ?_
          refine o_move ?_
          try dsimp only [putL, setL, evL, getL]
          refine HL_cons rfl ?_
          refine o_bin rfl rfl rfl ?_
          try dsimp only [putL, setL, evL, getL]
          refine HL_cons rfl ?_
          refine o_assign ?_
          try dsimp only [putL, setL, evL, getL]
          refine HL_nil ?_
          exact hK4137 _ _ ⟨kf, Nat.lt_succ_self kf, x4551, IntKind.i64.wrap (x3310 - 1), H, rfl, hH, hl4551⟩
      · replace H := iteF hb4140 H
        refine HT_false (congrArg Value.bool hb4140) ?_
        refine HT_exit ?_
        exact hK6 _ _ ⟨x3309, H, rfl, hH, hl3309⟩
  · rintro l' s4962 ⟨x2484, H, hl, hH, hl2484⟩
    generalize getL l' 6 = j6, getL l' 7 = j7, getL l' 14 = j14, getL l' 15 = j15, getL l' 16 = j16, getL l' 17 = j17, getL l' 18 = j18, getL l' 19 = j19, getL l' 20 = j20, getL l' 21 = j21, getL l' 22 = j22, getL l' 23 = j23, getL l' 24 = j24, getL l' 25 = j25, getL l' 26 = j26, getL l' 27 = j27, getL l' 28 = j28, getL l' 29 = j29, getL l' 30 = j30, getL l' 31 = j31, getL l' 32 = j32, getL l' 33 = j33, getL l' 34 = j34, getL l' 35 = j35, getL l' 36 = j36, getL l' 37 = j37, getL l' 38 = j38, getL l' 39 = j39, getL l' 40 = j40, getL l' 41 = j41, getL l' 42 = j42, getL l' 43 = j43, getL l' 44 = j44, getL l' 45 = j45, getL l' 46 = j46, getL l' 47 = j47, getL l' 48 = j48, getL l' 49 = j49, getL l' 50 = j50, getL l' 51 = j51, getL l' 52 = j52, getL l' 53 = j53, getL l' 54 = j54, getL l' 55 = j55, getL l' 56 = j56, getL l' 57 = j57, getL l' 58 = j58, getL l' 59 = j59, getL l' 60 = j60, getL l' 61 = j61, getL l' 62 = j62, getL l' 63 = j63, getL l' 64 = j64, getL l' 65 = j65, getL l' 66 = j66, getL l' 67 = j67, getL l' 68 = j68, getL l' 69 = j69, getL l' 70 = j70, getL l' 71 = j71, getL l' 72 = j72, getL l' 73 = j73, getL l' 74 = j74, getL l' 75 = j75, getL l' 76 = j76, getL l' 77 = j77, getL l' 78 = j78, getL l' 79 = j79, getL l' 80 = j80, getL l' 81 = j81, getL l' 82 = j82, getL l' 83 = j83, getL l' 84 = j84, getL l' 85 = j85 at hl
    subst hl
    replace H := hG6 _ H
    try dsimp only at H
    refine hK4 _ _ ?_
    refine HT_seq_k ?_
    intro K4963 hK4963
    refine HT_region ?_
    refine HL_cons rfl ?_
    refine o_move ?_
    try dsimp only [putL, setL, evL, getL]
    refine HL_cons rfl ?_
    refine o_assign ?_
    try dsimp only [putL, setL, evL, getL]
    refine HL_nil ?_
    refine hK4963 _ _ ?_
    refine HT_ret ?_
    obtain rfl := Option.some.inj (show some _ = some r from H)
    exact hQr _ _ [.slice A3 x3.length c3] ⟨rfl, trivial⟩ ⟨A3, c3, (by first | (rw [hl2484]; first | done | rfl) | rfl), hH⟩
def spec_l15Add.f (p0 : List ((Int) × (List (Int)))) (p1 : Int) (p2 : Int) : Option (List ((Int) × (List (Int)))) := (if (decide ((p0.length : Int) > 0)) = true then ((rd? p0 (IntKind.i64.wrap ((p0.length : Int) - 1))).bind fun u33 => some (u33.1 == p1)) else (some false)).bind fun (o : Bool) => match o with | x31 => (if x31 = true then ((rd? p0 (IntKind.i64.wrap ((p0.length : Int) - 1))).bind fun u38 => (app? 17592186044416 u38.2 [p2]).bind fun x43 => (st? p0 (IntKind.i64.wrap ((p0.length : Int) - 1)) (u38.1, x43)).bind fun x47 => some x47) else ((app? 4398046511104 p0 [(p1, [p2])]).bind fun x51 => some x51))
def spec_l15Add.post (sb s : St) (F0 : Fp) (r : (List ((Int) × (List (Int))))) : Value → St → Prop := fun v s' => ∃ (A0 : Option Addr) (c0 : Nat), v = .slice A0 r.length c0 ∧ Hp sb s F0 s' [Ck.ol OS99 99 A0 c0 r]
set_option maxRecDepth 100000 in
set_option maxHeartbeats 4000000 in
theorem spec_l15Add.ok (sb s : St) (F0 : Fp) (A0p : Option Addr) (c0p : Nat) (p0 : List ((Int) × (List (Int)))) (p1 : Int) (p2 : Int) (hH : Hp sb s F0 s [Ck.ol OS99 99 A0p c0p p0]) (r : (List ((Int) × (List (Int))))) (H : spec_l15Add.f p0 p1 p2 = some r) : GCall Try.prog 144 #[.slice A0p p0.length c0p, .int .i64 p1, .int .i64 p2] s (spec_l15Add.post sb s F0 r) := by
  refine GCall_ofk [.tmp 6] [.slice A0p p0.length c0p, .int .i64 p1, .int .i64 p2, undef, undef, undef, undef, undef, undef, undef, undef, undef, undef, undef, undef, undef, undef, undef, undef, undef, undef, undef, undef, undef, undef, undef, undef, undef, undef, undef, undef, undef, undef, undef, undef, undef, undef, undef, undef, undef, undef, undef, undef, undef] Try.func144 rfl rfl rfl ?_
  intro w Q hQr hQn hQp
  replace H := topE H
  unfold spec_l15Add.f at H
  refine HT_seq_k ?_
  intro K1 hK1
  refine HT_region ?_
  refine HL_cons rfl ?_
  refine o_assign ?_
  try dsimp only [putL, setL, evL, getL]
  refine HL_nil ?_
  refine hK1 _ _ ?_
  refine HT_seq_k ?_
  intro K25 hK25
  refine HT_seq_k ?_
  intro K26 hK26
  refine HT_region ?_
  refine HL_cons rfl ?_
  refine o_move ?_
  try dsimp only [putL, setL, evL, getL]
  refine HL_cons rfl ?_
  refine o_len rfl Try.underlying40 ?_
  try dsimp only [putL, setL, evL, getL]
  refine HL_cons rfl ?_
  refine o_assign ?_
  try dsimp only [putL, setL, evL, getL]
  refine HL_nil ?_
  refine hK26 _ _ ?_
  refine joinH H fun G27 hG27 H => ?_
  refine HT_joinK (fun l' s' => ∃ (x31 : Bool), G27 x31 = some r ∧ l' = [.slice A0p p0.length c0p, .int .i64 p1, .int .i64 p2, undef, undef, undef, .slice none 0 0, .int .i64 (p0.length : Int), .slice A0p p0.length c0p, .int .i64 (p0.length : Int), getL l' 10, getL l' 11, getL l' 12, getL l' 13, getL l' 14, getL l' 15, getL l' 16, getL l' 17, getL l' 18, getL l' 19, getL l' 20, .bool x31, undef, undef, undef, undef, undef, undef, undef, undef, undef, undef, undef, undef, undef, undef, undef, undef, undef, undef, undef, undef, undef, undef] ∧ Hp sb s F0 s' [Ck.ol OS99 99 A0p c0p p0]) ?_ ?_
  · intro K27 hK27
    refine HT_region ?_
    refine HL_cons rfl ?_
    refine o_move ?_
    try dsimp only [putL, setL, evL, getL]
    refine HL_cons rfl ?_
    refine o_bin rfl rfl rfl ?_
    try dsimp only [putL, setL, evL, getL]
    refine HL_cons rfl ?_
    refine o_move ?_
    try dsimp only [putL, setL, evL, getL]
    rcases Bool.eq_false_or_eq_true (decide ((p0.length : Int) > 0)) with hb32 | hb32
    · replace H := iteT hb32 H
      refine HL_want ?_ ?_
      · exact wantT (j := 2) (b := true) (t := 12) (c := decide ((p0.length : Int) > 0)) rfl rfl rfl rfl hb32
      refine o_move ?_
      try dsimp only [putL, setL, evL, getL]
      refine HL_want ?_ ?_
      · exact wantT (j := 2) (b := true) (t := 12) (c := decide ((p0.length : Int) > 0)) rfl rfl rfl rfl hb32
      refine o_move ?_
      try dsimp only [putL, setL, evL, getL]
      refine HL_want ?_ ?_
      · exact wantT (j := 2) (b := true) (t := 12) (c := decide ((p0.length : Int) > 0)) rfl rfl rfl rfl hb32
      refine o_bin rfl rfl rfl ?_
      try dsimp only [putL, setL, evL, getL]
      obtain ⟨u33, hu33, H⟩ := headE H
      obtain ⟨b33, o33, cs33, hA33, hr33, hh33, hel33⟩ := hH.elo 0 rfl hu33
      obtain ⟨_, _, rfl, rfl, ⟨A34, c34, rfl, D34⟩⟩ := hr33
      refine HL_want ?_ ?_
      · exact wantT (j := 2) (b := true) (t := 12) (c := decide ((p0.length : Int) > 0)) rfl rfl rfl rfl hb32
      refine hel33 s rfl rfl Try.underlying40 tI99 ?_
      try dsimp only [putL, setL, evL, getL]
      refine HL_want ?_ ?_
      · exact wantT (j := 2) (b := true) (t := 12) (c := decide ((p0.length : Int) > 0)) rfl rfl rfl rfl hb32
      refine o_faddr' (ft := 3) (off := 0) rfl Try.underlying99 rfl tI3 (by decide) ?_
      try dsimp only [putL, setL, evL, getL]
      refine HL_want ?_ ?_
      · exact wantT (j := 2) (b := true) (t := 12) (c := decide ((p0.length : Int) > 0)) rfl rfl rfl rfl hb32
      refine o_load' rfl Try.underlying3 rfl (hh33 0 _ rfl) ?_
      try dsimp only [putL, setL, evL, getL]
      refine HL_want ?_ ?_
      · exact wantT (j := 2) (b := true) (t := 12) (c := decide ((p0.length : Int) > 0)) rfl rfl rfl rfl hb32
      refine o_move ?_
      try dsimp only [putL, setL, evL, getL]
      refine HL_want ?_ ?_
      · exact wantT (j := 2) (b := true) (t := 12) (c := decide ((p0.length : Int) > 0)) rfl rfl rfl rfl hb32
      refine o_bin rfl rfl rfl ?_
      try dsimp only [putL, setL, evL, getL]
      refine HL_cons rfl ?_
      refine o_pickT rfl hb32 ?_
      try dsimp only [putL, setL, evL, getL]
      refine HL_nil ?_
      exact hK27 _ _ ⟨u33.1 == p1, H, rfl, hH⟩
    · replace H := iteF hb32 H
      refine HL_skip ?_ ?_
      · exact wantF (j := 2) (b := true) (t := 12) (c := decide ((p0.length : Int) > 0)) rfl rfl rfl rfl hb32
      try dsimp only [putL, setL, evL, getL]
      refine HL_skip ?_ ?_
      · exact wantF (j := 2) (b := true) (t := 12) (c := decide ((p0.length : Int) > 0)) rfl rfl rfl rfl hb32
      try dsimp only [putL, setL, evL, getL]
      refine HL_skip ?_ ?_
      · exact wantF (j := 2) (b := true) (t := 12) (c := decide ((p0.length : Int) > 0)) rfl rfl rfl rfl hb32
      try dsimp only [putL, setL, evL, getL]
      refine HL_skip ?_ ?_
      · exact wantF (j := 2) (b := true) (t := 12) (c := decide ((p0.length : Int) > 0)) rfl rfl rfl rfl hb32
      try dsimp only [putL, setL, evL, getL]
      refine HL_skip ?_ ?_
      · exact wantF (j := 2) (b := true) (t := 12) (c := decide ((p0.length : Int) > 0)) rfl rfl rfl rfl hb32
      try dsimp only [putL, setL, evL, getL]
      refine HL_skip ?_ ?_
      · exact wantF (j := 2) (b := true) (t := 12) (c := decide ((p0.length : Int) > 0)) rfl rfl rfl rfl hb32
      try dsimp only [putL, setL, evL, getL]
      refine HL_skip ?_ ?_
      · exact wantF (j := 2) (b := true) (t := 12) (c := decide ((p0.length : Int) > 0)) rfl rfl rfl rfl hb32
      try dsimp only [putL, setL, evL, getL]
      refine HL_skip ?_ ?_
      · exact wantF (j := 2) (b := true) (t := 12) (c := decide ((p0.length : Int) > 0)) rfl rfl rfl rfl hb32
      try dsimp only [putL, setL, evL, getL]
      refine HL_cons rfl ?_
      refine o_pickF rfl hb32 ?_
      try dsimp only [putL, setL, evL, getL]
      refine HL_nil ?_
      exact hK27 _ _ ⟨false, H, rfl, hH⟩
  · rintro l' s35 ⟨x31, H, hl, hH⟩
    generalize getL l' 10 = j10, getL l' 11 = j11, getL l' 12 = j12, getL l' 13 = j13, getL l' 14 = j14, getL l' 15 = j15, getL l' 16 = j16, getL l' 17 = j17, getL l' 18 = j18, getL l' 19 = j19, getL l' 20 = j20 at hl
    subst hl
    replace H := hG27 _ H
    try dsimp only at H
    rcases Bool.eq_false_or_eq_true x31 with hb36 | hb36
    · replace H := iteT hb36 H
      refine HT_true (congrArg Value.bool hb36) ?_
      refine HT_seq_k ?_
      intro K37 hK37
      refine HT_region ?_
      refine HL_cons rfl ?_
      refine o_move ?_
      try dsimp only [putL, setL, evL, getL]
      refine HL_cons rfl ?_
      refine o_move ?_
      try dsimp only [putL, setL, evL, getL]
      refine HL_cons rfl ?_
      refine o_bin rfl rfl rfl ?_
      try dsimp only [putL, setL, evL, getL]
      refine HL_cons rfl ?_
      refine o_move ?_
      try dsimp only [putL, setL, evL, getL]
      refine HL_cons rfl ?_
      refine o_move ?_
      try dsimp only [putL, setL, evL, getL]
      refine HL_cons rfl ?_
      refine o_bin rfl rfl rfl ?_
      try dsimp only [putL, setL, evL, getL]
      obtain ⟨u38, hu38, H⟩ := headE H
      obtain ⟨b38, o38, vs38, hA38, -, hH⟩ := hH.open 0 rfl rfl hu38
      dsimp only [addC, setC, rmC, selC, getC] at hH
      obtain ⟨v39, v40, rfl, hH⟩ := hH.el_pair 1 rfl rfl
      dsimp only [addC, setC, rmC, selC, getC] at hH
      obtain rfl := hH.el_rep 1 rfl
      replace hH := hH.drop 1 rfl
      dsimp only [addC, setC, rmC, selC, getC] at hH
      obtain ⟨A41, c41, rfl, hH⟩ := hH.el_sl 2 rfl rfl
      dsimp only [addC, setC, rmC, selC, getC] at hH
      replace hH : Hp sb s F0 s35 [Ck.oh OS99 99 A0p c0p p0 (Int.toNat (IntKind.i64.wrap ((p0.length : Int) - 1))) [.int .i64 u38.1, .slice A41 u38.2.length c41], Ck.emp, Ck.ol OI 3 A41 c41 u38.2] := hH
      refine HL_cons rfl ?_
      refine iaddr_of (K := KS99) hA38 hu38 s35 rfl rfl Try.underlying40 tI99 ?_
      try dsimp only [putL, setL, evL, getL]
      refine HL_cons rfl ?_
      refine o_faddr' (ft := 22) (off := 1) rfl Try.underlying99 rfl tI22 (by decide) ?_
      try dsimp only [putL, setL, evL, getL]
      refine HL_cons rfl ?_
      refine o_load' rfl Try.underlying22 rfl (hH.hasoh 0 rfl hA38 1 _ rfl) ?_
      try dsimp only [putL, setL, evL, getL]
      refine HL_cons rfl ?_
      refine o_move ?_
      try dsimp only [putL, setL, evL, getL]
      refine HL_cons rfl ?_
      refine o_litF (K := KI) (O := OI) (ca := #[.int .i64 p2]) [[.int .i64 p2]] [p2] hH Try.underlying22 tI3 rfl (by decide) rfl rfl rfl rfl ⟨rfl, Ent.own (Ent.flat rfl), trivial⟩ ?_
      intro A42 s42 hH' hG
      replace hH : Hp sb s F0 s42 [Ck.oh OS99 99 A0p c0p p0 (Int.toNat (IntKind.i64.wrap ((p0.length : Int) - 1))) [.int .i64 u38.1, .slice A41 u38.2.length c41], Ck.emp, Ck.ol OI 3 A41 c41 u38.2, Ck.ol OI 3 A42 1 [p2]] := hH'
      clear hH' hG
      try dsimp only [putL, setL, evL, getL]
      obtain ⟨x43, hx43, H⟩ := headE H
      refine HL_cons rfl ?_
      refine o_appF (K := KI) (n := 17592186044416) (A := A41) (c := c41) (xs := u38.2) (ys := [p2]) (B := A42) (c2 := 1) hH 2 rfl rfl rfl rfl Try.underlying22 tI3 rfl (by decide) (by decide) (by decide) (Src.flat (hH.rd 3 rfl)) hx43 ?_
      intro A43 c43 s43 hH'
      replace hH : Hp sb s F0 s43 [Ck.oh OS99 99 A0p c0p p0 (Int.toNat (IntKind.i64.wrap ((p0.length : Int) - 1))) [.int .i64 u38.1, .slice A41 u38.2.length c41], Ck.emp, Ck.ol OI 3 A43 c43 x43, Ck.ol OI 3 A42 1 [p2]] := hH'
      clear hH'
      try dsimp only [putL, setL, evL, getL]
      refine HL_cons rfl ?_
      refine iaddr_of (K := KS99) hA38 hu38 s43 rfl rfl Try.underlying40 tI99 ?_
      try dsimp only [putL, setL, evL, getL]
      refine HL_cons rfl ?_
      refine o_faddr' (ft := 22) (off := 1) rfl Try.underlying99 rfl tI22 (by decide) ?_
      try dsimp only [putL, setL, evL, getL]
      refine HL_cons rfl ?_
      refine o_seth (off := 1) (vs' := [.int .i64 u38.1, .slice A43 x43.length c43]) hH 0 rfl rfl rfl rfl rfl tI22 hA38 rfl rfl ?_
      intro s45 hH'
      replace hH : Hp sb s F0 s45 [Ck.oh OS99 99 A0p c0p p0 (Int.toNat (IntKind.i64.wrap ((p0.length : Int) - 1))) [.int .i64 u38.1, .slice A43 x43.length c43], Ck.emp, Ck.ol OI 3 A43 c43 x43, Ck.ol OI 3 A42 1 [p2]] := hH'
      clear hH'
      try dsimp only [putL, setL, evL, getL]
      refine HL_nil ?_
      refine hK37 _ _ ?_
      refine HT_seq_k ?_
      intro K46 hK46
      refine HT_region ?_
      refine HL_cons rfl ?_
      refine o_move ?_
      try dsimp only [putL, setL, evL, getL]
      refine HL_cons rfl ?_
      refine o_assign ?_
      try dsimp only [putL, setL, evL, getL]
      refine HL_nil ?_
      refine hK46 _ _ ?_
      refine HT_ret ?_
      replace hH := hH.conv [2] (by decide) (d := Ck.el OS99 [.int .i64 u38.1, .slice A43 x43.length c43] (u38.1, x43)) (Ent.pair (v1 := [.int .i64 u38.1]) (v2 := [.slice A43 x43.length c43]) (x1 := u38.1) (x2 := x43) (Ent.flat rfl) Ent.sl)
      dsimp only [addC, setC, rmC, selC, getC] at hH
      obtain ⟨x47, hx47, H⟩ := headE H
      replace hH := hH.close (i := IntKind.i64.wrap ((p0.length : Int) - 1)) 0 4 (by decide) rfl rfl rfl hx47
      dsimp only [addC, setC, rmC, selC, getC] at hH
      have hl47 := st?_len hx47
      replace hH : Hp sb s F0 s45 [Ck.ol OS99 99 A0p c0p x47, Ck.emp, Ck.emp, Ck.ol OI 3 A42 1 [p2], Ck.emp] := hH
      obtain rfl := Option.some.inj (show some _ = some r from H)
      exact hQr _ _ [.slice A0p p0.length c0p] ⟨rfl, trivial⟩ ⟨A0p, c0p, (by first | (rw [hl47]; first | done | rfl) | rfl), hH.sel [0] (by decide)⟩
    · replace H := iteF hb36 H
      refine HT_false (congrArg Value.bool hb36) ?_
      refine HT_skip ?_
      refine hK25 _ _ ?_
      refine HT_seq_k ?_
      intro K48 hK48
      refine HT_region ?_
      refine HL_cons rfl ?_
      refine o_move ?_
      try dsimp only [putL, setL, evL, getL]
      refine HL_cons rfl ?_
      refine o_move ?_
      try dsimp only [putL, setL, evL, getL]
      refine HL_cons rfl ?_
      refine o_move ?_
      try dsimp only [putL, setL, evL, getL]
      refine HL_cons rfl ?_
      refine o_litF (K := KI) (O := OI) (ca := #[.int .i64 p2]) [[.int .i64 p2]] [p2] hH Try.underlying22 tI3 rfl (by decide) rfl rfl rfl rfl ⟨rfl, Ent.own (Ent.flat rfl), trivial⟩ ?_
      intro A49 s49 hH' hG
      replace hH : Hp sb s F0 s49 [Ck.ol OS99 99 A0p c0p p0, Ck.ol OI 3 A49 1 [p2]] := hH'
      clear hH' hG
      try dsimp only [putL, setL, evL, getL]
      refine HL_cons rfl ?_
      refine o_build (pl := [(0, 1), (1, 1)]) (cs := #[.int .i64 p1, .slice A49 [p2].length 1]) Try.underlying99 tI99 (by kernel_rfl) (by kernel_rfl) rfl ?_
      try dsimp only [putL, setL, evL, getL]
      replace hH := hH.conv [1] (by decide) (d := Ck.el OS99 [.int .i64 p1, .slice A49 [p2].length 1] (p1, [p2])) (Ent.pair (v1 := [.int .i64 p1]) (v2 := [.slice A49 [p2].length 1]) (x1 := p1) (x2 := [p2]) (Ent.flat rfl) Ent.sl)
      dsimp only [addC, setC, rmC, selC, getC] at hH
      refine HL_cons rfl ?_
      refine o_litD (K := KS99) (O := OS99) (ca := #[.int .i64 p1, .slice A49 [p2].length 1]) [[.int .i64 p1, .slice A49 [p2].length 1]] [(p1, [p2])] hH [2] (by decide) rfl Try.underlying40 tI99 rfl (by decide) rfl rfl rfl rfl rfl rfl ?_
      intro A50 s50 hH' hG
      replace hH : Hp sb s F0 s50 [Ck.ol OS99 99 A0p c0p p0, Ck.emp, Ck.emp, Ck.ol OS99 99 A50 1 [(p1, [p2])]] := hH'
      clear hH' hG
      try dsimp only [putL, setL, evL, getL]
      obtain ⟨x51, hx51, H⟩ := headE H
      refine HL_cons rfl ?_
      refine o_appD (K := KS99) (n := 4398046511104) (A := A0p) (c := c0p) (xs := p0) (ys := [(p1, [p2])]) (B := A50) (c2 := 1) hH 0 3 (by decide) rfl rfl rfl rfl rfl Try.underlying40 tI99 rfl (by decide) (by decide) (by decide) hx51 ?_
      intro A51 c51 s51 hH'
      replace hH : Hp sb s F0 s51 [Ck.ol OS99 99 A51 c51 x51, Ck.emp, Ck.emp, Ck.emp] := hH'
      clear hH'
      try dsimp only [putL, setL, evL, getL]
      refine HL_cons rfl ?_
      refine o_assign ?_
      try dsimp only [putL, setL, evL, getL]
      refine HL_nil ?_
      refine hK48 _ _ ?_
      refine HT_ret ?_
      obtain rfl := Option.some.inj (show some _ = some r from H)
      exact hQr _ _ [.slice A51 x51.length c51] ⟨rfl, trivial⟩ ⟨A51, c51, rfl, hH.sel [0] (by decide)⟩
def spec_l15Diff.l1 (p0 : List (Int)) (p1 : List (Int)) (u3 : (List (List (Int)))) : Nat → (List ((Int) × (List (Int)))) → Int → Int → Option (List ((Int) × (List (Int))))
  | 0, _, _, _ => none
  | kf + 1, x258, x259, x260 => (if (decide (x259 < (p0.length : Int))) = true then (some true) else (some (decide (x260 < (p1.length : Int))))).bind fun (o : Bool) => match o with | x334 => (if x334 = true then ((if (decide (x259 < (p0.length : Int))) = true then (if (decide (x260 < (p1.length : Int))) = true then ((rd? p0 x259).bind fun u346 => (rd? p1 x260).bind fun u347 => some (u346 == u347)) else (some false)) else (some false)).bind fun (o : Bool) => match o with | x343 => (if x343 = true then ((rd? p0 x259).bind fun u351 => (spec_l15Add.f x258 1 u351).bind fun u352 => spec_l15Diff.l1 p0 p1 u3 kf u352 (IntKind.i64.wrap (x259 + 1)) (IntKind.i64.wrap (x260 + 1))) else ((if (decide (x259 < (p0.length : Int))) = true then (if (x260 == (p1.length : Int)) = true then (some true) else ((rd? u3 (IntKind.i64.wrap (x259 + 1))).bind fun u367 => (rd? u367 x260).bind fun u369 => (rd? u3 x259).bind fun u370 => (rd? u370 x260).bind fun u372 => some (u369 == u372))) else (some false)).bind fun (o : Bool) => match o with | x364 => (if x364 = true then ((rd? p0 x259).bind fun u376 => (spec_l15Add.f x258 2 u376).bind fun u377 => spec_l15Diff.l1 p0 p1 u3 kf u377 (IntKind.i64.wrap (x259 + 1)) x260) else ((rd? p1 x260).bind fun u380 => (spec_l15Add.f x258 3 u380).bind fun u381 => spec_l15Diff.l1 p0 p1 u3 kf u381 x259 (IntKind.i64.wrap (x260 + 1))))))) else (some x258))
def spec_l15Diff.f (p0 : List (Int)) (p1 : List (Int)) : Option (List ((Int) × (List (Int)))) := (spec_l15Common.f p0 p1).bind fun u3 => (spec_l15Diff.l1 p0 p1 u3 (p0.length + p1.length + 2) [] 0 0).bind fun (o : (List ((Int) × (List (Int))))) => match o with | x195 => (some x195)
def spec_l15Diff.post (sb s : St) (F0 : Fp) (r : (List ((Int) × (List (Int))))) : Value → St → Prop := fun v s' => ∃ (A0 : Option Addr) (c0 : Nat), v = .slice A0 r.length c0 ∧ Hp sb s F0 s' [Ck.ol OS99 99 A0 c0 r]
set_option maxRecDepth 100000 in
set_option maxHeartbeats 4000000 in
theorem spec_l15Diff.ok (sb s : St) (F0 : Fp) (A0p : Option Addr) (c0p : Nat) (p0 : List (Int)) (A1p : Option Addr) (c1p : Nat) (p1 : List (Int)) (HRp0 : Rd KI sb A0p c0p p0) (HRp1 : Rd KI sb A1p c1p p1) (hH : Hp sb s F0 s []) (r : (List ((Int) × (List (Int))))) (H : spec_l15Diff.f p0 p1 = some r) : GCall Try.prog 97 #[.slice A0p p0.length c0p, .slice A1p p1.length c1p] s (spec_l15Diff.post sb s F0 r) := by
  refine GCall_ofk [.tmp 4] [.slice A0p p0.length c0p, .slice A1p p1.length c1p, undef, undef, undef, undef, undef, undef, undef, undef, undef, undef, undef, undef, undef, undef, undef, undef, undef, undef, undef, undef, undef, undef, undef, undef, undef, undef, undef, undef, undef, undef, undef, undef, undef, undef, undef, undef, undef, undef, undef, undef, undef, undef, undef, undef, undef, undef, undef, undef, undef, undef, undef, undef, undef, undef, undef, undef, undef, undef, undef, undef, undef, undef, undef, undef, undef, undef, undef, undef, undef, undef, undef, undef, undef, undef, undef, undef, undef, undef, undef, undef, undef, undef, undef, undef, undef, undef, undef, undef, undef, undef, undef, undef, undef, undef, undef, undef, undef, undef] Try.func97 rfl rfl rfl ?_
  intro w Q hQr hQn hQp
  replace H := topE H
  unfold spec_l15Diff.f at H
  refine HT_seq_k ?_
  intro K1 hK1
  refine HT_region ?_
  refine HL_cons rfl ?_
  refine o_assign ?_
  try dsimp only [putL, setL, evL, getL]
  refine HL_nil ?_
  refine hK1 _ _ ?_
  refine HT_seq_k ?_
  intro K2 hK2
  refine HT_region ?_
  refine HL_cons rfl ?_
  refine o_move ?_
  try dsimp only [putL, setL, evL, getL]
  refine HL_cons rfl ?_
  refine o_move ?_
  try dsimp only [putL, setL, evL, getL]
  obtain ⟨u3, hu3, H⟩ := headE H
  refine HL_cons rfl ?_
  refine o_call (args := #[.slice A0p p0.length c0p, .slice A1p p1.length c1p]) Try.func143 rfl rfl rfl (spec_l15Common.ok sb s no A0p c0p p0 A1p c1p p1 HRp0 HRp1 (Hp.own hH.bs) _ hu3) ?_
  rintro _ s3 ⟨A4, c4, rfl, hD⟩
  replace hH := hH.back0 hD (Up.refl _ _ _)
  clear hD
  dsimp only [addC, setC, rmC, selC, getC] at hH
  try dsimp only [putL, setL, evL, getL]
  refine HL_cons rfl ?_
  refine o_assign ?_
  try dsimp only [putL, setL, evL, getL]
  refine HL_nil ?_
  refine hK2 _ _ ?_
  refine HT_seq_k ?_
  intro K5 hK5
  refine HT_region ?_
  refine HL_cons rfl ?_
  refine o_assign ?_
  try dsimp only [putL, setL, evL, getL]
  refine HL_nil ?_
  refine hK5 _ _ ?_
  refine HT_seq_k ?_
  intro K6 hK6
  refine HT_region ?_
  refine HL_cons rfl ?_
  refine o_assign ?_
  try dsimp only [putL, setL, evL, getL]
  refine HL_cons rfl ?_
  refine o_assign ?_
  try dsimp only [putL, setL, evL, getL]
  refine HL_nil ?_
  refine hK6 _ _ ?_
  refine joinH H fun G7 hG7 H => ?_
  refine HT_joinK (fun l' s' => ∃ (x195 : List ((Int) × (List (Int)))) (A195 : Option Addr) (c195 : Nat), G7 x195 = some r ∧ l' = [.slice A0p p0.length c0p, .slice A1p p1.length c1p, undef, undef, .slice none 0 0, .slice A4 u3.length c4, .slice A195 x195.length c195, getL l' 7, getL l' 8, .slice A0p p0.length c0p, .slice A1p p1.length c1p, .slice A4 u3.length c4, getL l' 12, getL l' 13, getL l' 14, getL l' 15, getL l' 16, getL l' 17, getL l' 18, getL l' 19, getL l' 20, getL l' 21, getL l' 22, getL l' 23, getL l' 24, getL l' 25, getL l' 26, getL l' 27, getL l' 28, getL l' 29, getL l' 30, getL l' 31, getL l' 32, getL l' 33, getL l' 34, getL l' 35, getL l' 36, getL l' 37, getL l' 38, getL l' 39, getL l' 40, getL l' 41, getL l' 42, getL l' 43, getL l' 44, getL l' 45, getL l' 46, getL l' 47, getL l' 48, getL l' 49, getL l' 50, getL l' 51, getL l' 52, getL l' 53, getL l' 54, getL l' 55, getL l' 56, getL l' 57, getL l' 58, getL l' 59, getL l' 60, getL l' 61, getL l' 62, getL l' 63, getL l' 64, getL l' 65, getL l' 66, getL l' 67, getL l' 68, getL l' 69, getL l' 70, getL l' 71, getL l' 72, getL l' 73, getL l' 74, getL l' 75, getL l' 76, getL l' 77, getL l' 78, getL l' 79, getL l' 80, getL l' 81, getL l' 82, getL l' 83, getL l' 84, getL l' 85, getL l' 86, getL l' 87, getL l' 88, getL l' 89, getL l' 90, getL l' 91, getL l' 92, getL l' 93, getL l' 94, getL l' 95, getL l' 96, getL l' 97, getL l' 98, undef] ∧ Hp sb s F0 s' [Ck.ol OS99 99 A195 c195 x195]) ?_ ?_
  · intro K7 hK7
    refine HT_block ?_
    refine HT_loopK (fun kf l' s' => ∃ (x258 : List ((Int) × (List (Int)))) (A258 : Option Addr) (c258 : Nat) (x259 : Int) (x260 : Int), (spec_l15Diff.l1 p0 p1 u3 kf x258 x259 x260).bind G7 = some r ∧ l' = [.slice A0p p0.length c0p, .slice A1p p1.length c1p, undef, undef, .slice none 0 0, .slice A4 u3.length c4, .slice A258 x258.length c258, .int .i64 x259, .int .i64 x260, .slice A0p p0.length c0p, .slice A1p p1.length c1p, .slice A4 u3.length c4, getL l' 12, getL l' 13, getL l' 14, getL l' 15, getL l' 16, getL l' 17, getL l' 18, getL l' 19, getL l' 20, getL l' 21, getL l' 22, getL l' 23, getL l' 24, getL l' 25, getL l' 26, getL l' 27, getL l' 28, getL l' 29, getL l' 30, getL l' 31, getL l' 32, getL l' 33, getL l' 34, getL l' 35, getL l' 36, getL l' 37, getL l' 38, getL l' 39, getL l' 40, getL l' 41, getL l' 42, getL l' 43, getL l' 44, getL l' 45, getL l' 46, getL l' 47, getL l' 48, getL l' 49, getL l' 50, getL l' 51, getL l' 52, getL l' 53, getL l' 54, getL l' 55, getL l' 56, getL l' 57, getL l' 58, getL l' 59, getL l' 60, getL l' 61, getL l' 62, getL l' 63, getL l' 64, getL l' 65, getL l' 66, getL l' 67, getL l' 68, getL l' 69, getL l' 70, getL l' 71, getL l' 72, getL l' 73, getL l' 74, getL l' 75, getL l' 76, getL l' 77, getL l' 78, getL l' 79, getL l' 80, getL l' 81, getL l' 82, getL l' 83, getL l' 84, getL l' 85, getL l' 86, getL l' 87, getL l' 88, getL l' 89, getL l' 90, getL l' 91, getL l' 92, getL l' 93, getL l' 94, getL l' 95, getL l' 96, getL l' 97, getL l' 98, undef] ∧ Hp sb s F0 s' [Ck.ol OS99 99 A258 c258 x258, Ck.ol (Ow.sl OI 3) 22 A4 c4 u3]) (p0.length + p1.length + 2) ⟨[], none, 0, 0, 0, H, rfl, (hH.nil (K := KS99) OS99 99).sel [1, 0] (by decide)⟩ ?_
    rintro kf l' s323 ⟨x258, A258, c258, x259, x260, H, hl, hH⟩ K323 hK323
    generalize getL l' 12 = j12, getL l' 13 = j13, getL l' 14 = j14, getL l' 15 = j15, getL l' 16 = j16, getL l' 17 = j17, getL l' 18 = j18, getL l' 19 = j19, getL l' 20 = j20, getL l' 21 = j21, getL l' 22 = j22, getL l' 23 = j23, getL l' 24 = j24, getL l' 25 = j25, getL l' 26 = j26, getL l' 27 = j27, getL l' 28 = j28, getL l' 29 = j29, getL l' 30 = j30, getL l' 31 = j31, getL l' 32 = j32, getL l' 33 = j33, getL l' 34 = j34, getL l' 35 = j35, getL l' 36 = j36, getL l' 37 = j37, getL l' 38 = j38, getL l' 39 = j39, getL l' 40 = j40, getL l' 41 = j41, getL l' 42 = j42, getL l' 43 = j43, getL l' 44 = j44, getL l' 45 = j45, getL l' 46 = j46, getL l' 47 = j47, getL l' 48 = j48, getL l' 49 = j49, getL l' 50 = j50, getL l' 51 = j51, getL l' 52 = j52, getL l' 53 = j53, getL l' 54 = j54, getL l' 55 = j55, getL l' 56 = j56, getL l' 57 = j57, getL l' 58 = j58, getL l' 59 = j59, getL l' 60 = j60, getL l' 61 = j61, getL l' 62 = j62, getL l' 63 = j63, getL l' 64 = j64, getL l' 65 = j65, getL l' 66 = j66, getL l' 67 = j67, getL l' 68 = j68, getL l' 69 = j69, getL l' 70 = j70, getL l' 71 = j71, getL l' 72 = j72, getL l' 73 = j73, getL l' 74 = j74, getL l' 75 = j75, getL l' 76 = j76, getL l' 77 = j77, getL l' 78 = j78, getL l' 79 = j79, getL l' 80 = j80, getL l' 81 = j81, getL l' 82 = j82, getL l' 83 = j83, getL l' 84 = j84, getL l' 85 = j85, getL l' 86 = j86, getL l' 87 = j87, getL l' 88 = j88, getL l' 89 = j89, getL l' 90 = j90, getL l' 91 = j91, getL l' 92 = j92, getL l' 93 = j93, getL l' 94 = j94, getL l' 95 = j95, getL l' 96 = j96, getL l' 97 = j97, getL l' 98 = j98 at hl
    subst hl
    cases kf with
    | zero => simp [spec_l15Diff.l1] at H
    | succ kf =>
      rw [spec_l15Diff.l1] at H
      refine HT_seq_k ?_
      intro K331 hK331
      refine joinH H fun G332 hG332 H => ?_
      refine HT_joinK (fun l' s' => ∃ (x334 : Bool), G332 x334 = some r ∧ l' = [.slice A0p p0.length c0p, .slice A1p p1.length c1p, undef, undef, .slice none 0 0, .slice A4 u3.length c4, .slice A258 x258.length c258, .int .i64 x259, .int .i64 x260, .slice A0p p0.length c0p, .slice A1p p1.length c1p, .slice A4 u3.length c4, getL l' 12, getL l' 13, getL l' 14, getL l' 15, getL l' 16, getL l' 17, getL l' 18, getL l' 19, getL l' 20, .bool x334, j22, j23, j24, j25, j26, j27, j28, j29, j30, j31, j32, j33, j34, j35, j36, j37, j38, j39, j40, j41, j42, j43, j44, j45, j46, j47, j48, j49, j50, j51, j52, j53, j54, j55, j56, j57, j58, j59, j60, j61, j62, j63, j64, j65, j66, j67, j68, j69, j70, j71, j72, j73, j74, j75, j76, j77, j78, j79, j80, j81, j82, j83, j84, j85, j86, j87, j88, j89, j90, j91, j92, j93, j94, j95, j96, j97, j98, undef] ∧ Hp sb s F0 s' [Ck.ol (Ow.sl OI 3) 22 A4 c4 u3, Ck.ol OS99 99 A258 c258 x258]) ?_ ?_
      · intro K332 hK332
        refine HT_region ?_
        refine HL_cons rfl ?_
        refine o_move ?_
        try dsimp only [putL, setL, evL, getL]
        refine HL_cons rfl ?_
        refine o_move ?_
        try dsimp only [putL, setL, evL, getL]
        refine HL_cons rfl ?_
        refine o_len rfl Try.underlying22 ?_
        try dsimp only [putL, setL, evL, getL]
        refine HL_cons rfl ?_
        refine o_bin rfl rfl rfl ?_
        try dsimp only [putL, setL, evL, getL]
        refine HL_cons rfl ?_
        refine o_move ?_
        try dsimp only [putL, setL, evL, getL]
        rcases Bool.eq_false_or_eq_true (decide (x259 < (p0.length : Int))) with hb335 | hb335
        · replace H := iteT hb335 H
          refine HL_skip ?_ ?_
          · exact wantF (j := 4) (b := false) (t := 16) (c := decide (x259 < (p0.length : Int))) rfl rfl rfl rfl hb335
          try dsimp only [putL, setL, evL, getL]
          refine HL_skip ?_ ?_
          · exact wantF (j := 4) (b := false) (t := 16) (c := decide (x259 < (p0.length : Int))) rfl rfl rfl rfl hb335
          try dsimp only [putL, setL, evL, getL]
          refine HL_skip ?_ ?_
          · exact wantF (j := 4) (b := false) (t := 16) (c := decide (x259 < (p0.length : Int))) rfl rfl rfl rfl hb335
          try dsimp only [putL, setL, evL, getL]
          refine HL_skip ?_ ?_
          · exact wantF (j := 4) (b := false) (t := 16) (c := decide (x259 < (p0.length : Int))) rfl rfl rfl rfl hb335
          try dsimp only [putL, setL, evL, getL]
          refine HL_cons rfl ?_
          refine o_pickT rfl hb335 ?_
          try dsimp only [putL, setL, evL, getL]
          refine HL_nil ?_
          exact hK332 _ _ ⟨true, H, rfl, hH.sel [1, 0] (by decide)⟩
        · replace H := iteF hb335 H
          refine HL_want ?_ ?_
          · exact wantT (j := 4) (b := false) (t := 16) (c := decide (x259 < (p0.length : Int))) rfl rfl rfl rfl hb335
          refine o_move ?_
          try dsimp only [putL, setL, evL, getL]
          refine HL_want ?_ ?_
          · exact wantT (j := 4) (b := false) (t := 16) (c := decide (x259 < (p0.length : Int))) rfl rfl rfl rfl hb335
          refine o_move ?_
          try dsimp only [putL, setL, evL, getL]
          refine HL_want ?_ ?_
          · exact wantT (j := 4) (b := false) (t := 16) (c := decide (x259 < (p0.length : Int))) rfl rfl rfl rfl hb335
          refine o_len rfl Try.underlying22 ?_
          try dsimp only [putL, setL, evL, getL]
          refine HL_want ?_ ?_
          · exact wantT (j := 4) (b := false) (t := 16) (c := decide (x259 < (p0.length : Int))) rfl rfl rfl rfl hb335
          refine o_bin rfl rfl rfl ?_
          try dsimp only [putL, setL, evL, getL]
          refine HL_cons rfl ?_
          refine o_pickF rfl hb335 ?_
          try dsimp only [putL, setL, evL, getL]
          refine HL_nil ?_
          exact hK332 _ _ ⟨decide (x260 < (p1.length : Int)), H, rfl, hH.sel [1, 0] (by decide)⟩
      · rintro l' s336 ⟨x334, H, hl, hH⟩
        generalize getL l' 12 = j12, getL l' 13 = j13, getL l' 14 = j14, getL l' 15 = j15, getL l' 16 = j16, getL l' 17 = j17, getL l' 18 = j18, getL l' 19 = j19, getL l' 20 = j20 at hl
        subst hl
        replace H := hG332 _ H
        try dsimp only at H
        rcases Bool.eq_false_or_eq_true x334 with hb337 | hb337
        · replace H := iteT hb337 H
          refine HT_true (congrArg Value.bool hb337) ?_
          refine HT_skip ?_
          refine hK331 _ _ ?_
          refine HT_block ?_
          refine HT_block ?_
          refine joinH H fun G338 hG338 H => ?_
          refine HT_joinK (fun l' s' => ∃ (x343 : Bool), G338 x343 = some r ∧ l' = [.slice A0p p0.length c0p, .slice A1p p1.length c1p, undef, undef, .slice none 0 0, .slice A4 u3.length c4, .slice A258 x258.length c258, .int .i64 x259, .int .i64 x260, .slice A0p p0.length c0p, .slice A1p p1.length c1p, .slice A4 u3.length c4, j12, j13, j14, j15, j16, j17, j18, j19, j20, .bool x334, j22, j23, j24, j25, j26, j27, j28, j29, .bool x343, getL l' 31, getL l' 32, getL l' 33, getL l' 34, getL l' 35, getL l' 36, getL l' 37, getL l' 38, getL l' 39, getL l' 40, getL l' 41, getL l' 42, getL l' 43, getL l' 44, getL l' 45, getL l' 46, getL l' 47, getL l' 48, getL l' 49, getL l' 50, getL l' 51, j52, j53, j54, j55, j56, j57, j58, j59, j60, j61, j62, j63, j64, j65, j66, j67, j68, j69, j70, j71, j72, j73, j74, j75, j76, j77, j78, j79, j80, j81, j82, j83, j84, j85, j86, j87, j88, j89, j90, j91, j92, j93, j94, j95, j96, j97, j98, undef] ∧ Hp sb s F0 s' [Ck.ol (Ow.sl OI 3) 22 A4 c4 u3, Ck.ol OS99 99 A258 c258 x258]) ?_ ?_
          · intro K338 hK338
            refine HK_draw (fun s' => Gro s336 s') 23 hMix ?_
            have hR := Gro.refl s336
            have hH0 := hH
            refine HK_readP 0 (v := .int .i64 x259) rfl (by kernel_rfl) (fun c l s h => hQp c l s h) rfl (fun s' K hK => ?_) rfl rfl (fun _ => hR) ?_
            · refine o_move ?_
              exact hK
            try dsimp only [putL, setL, evL, getL]
            refine HK_readP 1 (v := .slice A0p p0.length c0p) rfl (by kernel_rfl) (fun c l s h => hQp c l s h) rfl (fun s' K hK => ?_) rfl rfl (fun _ => hR) ?_
            · refine o_move ?_
              exact hK
            try dsimp only [putL, setL, evL, getL]
            refine HK_readP 2 (v := .int .i64 (p0.length : Int)) rfl (by kernel_rfl) (fun c l s h => hQp c l s h) rfl (fun s' K hK => ?_) rfl rfl (fun _ => hR) ?_
            · refine o_len rfl Try.underlying22 ?_
              exact hK
            try dsimp only [putL, setL, evL, getL]
            refine HK_readP 3 (v := .bool (decide (x259 < (p0.length : Int)))) rfl (by kernel_rfl) (fun c l s h => hQp c l s h) rfl (fun s' K hK => ?_) rfl rfl (fun _ => hR) ?_
            · refine o_bin rfl rfl rfl ?_
              exact hK
            try dsimp only [putL, setL, evL, getL]
            refine HK_readP 4 (v := .bool (decide (x259 < (p0.length : Int)))) rfl (by kernel_rfl) (fun c l s h => hQp c l s h) rfl (fun s' K hK => ?_) rfl rfl (fun _ => hR) ?_
            · refine o_move ?_
              exact hK
            try dsimp only [putL, setL, evL, getL]
            rcases Bool.eq_false_or_eq_true (decide (x259 < (p0.length : Int))) with hb344 | hb344
            · replace H := iteT hb344 H
              refine HK_readP 5 (v := .int .i64 x260) rfl (by kernel_rfl) (fun c l s h => hQp c l s h) (wantT (j := 4) (b := true) (t := 35) (c := decide (x259 < (p0.length : Int))) rfl rfl rfl rfl hb344) (fun s' K hK => ?_) rfl rfl (fun _ => hR) ?_
              · refine o_move ?_
                exact hK
              try dsimp only [putL, setL, evL, getL]
              refine HK_readP 6 (v := .slice A1p p1.length c1p) rfl (by kernel_rfl) (fun c l s h => hQp c l s h) (wantT (j := 4) (b := true) (t := 35) (c := decide (x259 < (p0.length : Int))) rfl rfl rfl rfl hb344) (fun s' K hK => ?_) rfl rfl (fun _ => hR) ?_
              · refine o_move ?_
                exact hK
              try dsimp only [putL, setL, evL, getL]
              refine HK_readP 7 (v := .int .i64 (p1.length : Int)) rfl (by kernel_rfl) (fun c l s h => hQp c l s h) (wantT (j := 4) (b := true) (t := 35) (c := decide (x259 < (p0.length : Int))) rfl rfl rfl rfl hb344) (fun s' K hK => ?_) rfl rfl (fun _ => hR) ?_
              · refine o_len rfl Try.underlying22 ?_
                exact hK
              try dsimp only [putL, setL, evL, getL]
              refine HK_readP 8 (v := .bool (decide (x260 < (p1.length : Int)))) rfl (by kernel_rfl) (fun c l s h => hQp c l s h) (wantT (j := 4) (b := true) (t := 35) (c := decide (x259 < (p0.length : Int))) rfl rfl rfl rfl hb344) (fun s' K hK => ?_) rfl rfl (fun _ => hR) ?_
              · refine o_bin rfl rfl rfl ?_
                exact hK
              try dsimp only [putL, setL, evL, getL]
              refine HK_readP 9 (v := .bool (decide (x260 < (p1.length : Int)))) rfl (by kernel_rfl) (fun c l s h => hQp c l s h) rfl (fun s' K hK => ?_) rfl rfl (fun _ => hR) ?_
              · refine o_pickT rfl hb344 ?_
                exact hK
              try dsimp only [putL, setL, evL, getL]
              refine HK_readP 10 (v := .bool (decide (x260 < (p1.length : Int)))) rfl (by kernel_rfl) (fun c l s h => hQp c l s h) rfl (fun s' K hK => ?_) rfl rfl (fun _ => hR) ?_
              · refine o_move ?_
                exact hK
              try dsimp only [putL, setL, evL, getL]
              rcases Bool.eq_false_or_eq_true (decide (x260 < (p1.length : Int))) with hb345 | hb345
              · replace H := iteT hb345 H
                refine HK_readP 11 (v := .slice A0p p0.length c0p) rfl (by kernel_rfl) (fun c l s h => hQp c l s h) (wantT (j := 10) (b := true) (t := 41) (c := decide (x260 < (p1.length : Int))) rfl rfl rfl rfl hb345) (fun s' K hK => ?_) rfl rfl (fun _ => hR) ?_
                · refine o_move ?_
                  exact hK
                try dsimp only [putL, setL, evL, getL]
                refine HK_readP 12 (v := .int .i64 x259) rfl (by kernel_rfl) (fun c l s h => hQp c l s h) (wantT (j := 10) (b := true) (t := 41) (c := decide (x260 < (p1.length : Int))) rfl rfl rfl rfl hb345) (fun s' K hK => ?_) rfl rfl (fun _ => hR) ?_
                · refine o_move ?_
                  exact hK
                try dsimp only [putL, setL, evL, getL]
                obtain ⟨u346, hu346, H⟩ := headE H
                obtain ⟨b346, o346, cs346, hr346, hh346, hel346⟩ := Rd.elb HRp0 hu346
                obtain rfl := hr346
                refine HK_readP 13 (v := .pointer (some ⟨b346, o346, none⟩)) rfl (by kernel_rfl) (fun c l s h => hQp c l s h) (wantT (j := 10) (b := true) (t := 41) (c := decide (x260 < (p1.length : Int))) rfl rfl rfl rfl hb345) (fun s' K hK => ?_) rfl rfl (fun _ => hR) ?_
                · refine hel346 s' rfl rfl Try.underlying22 tI3 ?_
                  exact hK
                try dsimp only [putL, setL, evL, getL]
                refine HK_read 14 (v := .int .i64 u346) rfl (by kernel_rfl) (fun c l s h => hQp c l s h) (wantT (j := 10) (b := true) (t := 41) (c := decide (x260 < (p1.length : Int))) rfl rfl rfl rfl hb345) (fun s' hR' K hK => ?_) rfl rfl hR ?_
                · refine o_load' rfl Try.underlying3 rfl ((hh346 (hH0.bs.mono.trans hR'.mono)) 0 _ rfl) ?_
                  exact hK
                try dsimp only [putL, setL, evL, getL]
                refine HK_readP 15 (v := .slice A1p p1.length c1p) rfl (by kernel_rfl) (fun c l s h => hQp c l s h) (wantT (j := 10) (b := true) (t := 41) (c := decide (x260 < (p1.length : Int))) rfl rfl rfl rfl hb345) (fun s' K hK => ?_) rfl rfl (fun _ => hR) ?_
                · refine o_move ?_
                  exact hK
                try dsimp only [putL, setL, evL, getL]
                refine HK_readP 16 (v := .int .i64 x260) rfl (by kernel_rfl) (fun c l s h => hQp c l s h) (wantT (j := 10) (b := true) (t := 41) (c := decide (x260 < (p1.length : Int))) rfl rfl rfl rfl hb345) (fun s' K hK => ?_) rfl rfl (fun _ => hR) ?_
                · refine o_move ?_
                  exact hK
                try dsimp only [putL, setL, evL, getL]
                obtain ⟨u347, hu347, H⟩ := headE H
                obtain ⟨b347, o347, cs347, hr347, hh347, hel347⟩ := Rd.elb HRp1 hu347
                obtain rfl := hr347
                refine HK_readP 17 (v := .pointer (some ⟨b347, o347, none⟩)) rfl (by kernel_rfl) (fun c l s h => hQp c l s h) (wantT (j := 10) (b := true) (t := 41) (c := decide (x260 < (p1.length : Int))) rfl rfl rfl rfl hb345) (fun s' K hK => ?_) rfl rfl (fun _ => hR) ?_
                · refine hel347 s' rfl rfl Try.underlying22 tI3 ?_
                  exact hK
                try dsimp only [putL, setL, evL, getL]
                refine HK_read 18 (v := .int .i64 u347) rfl (by kernel_rfl) (fun c l s h => hQp c l s h) (wantT (j := 10) (b := true) (t := 41) (c := decide (x260 < (p1.length : Int))) rfl rfl rfl rfl hb345) (fun s' hR' K hK => ?_) rfl rfl hR ?_
                · refine o_load' rfl Try.underlying3 rfl ((hh347 (hH0.bs.mono.trans hR'.mono)) 0 _ rfl) ?_
                  exact hK
                try dsimp only [putL, setL, evL, getL]
                refine HK_readP 19 (v := .bool (u346 == u347)) rfl (by kernel_rfl) (fun c l s h => hQp c l s h) (wantT (j := 10) (b := true) (t := 41) (c := decide (x260 < (p1.length : Int))) rfl rfl rfl rfl hb345) (fun s' K hK => ?_) rfl rfl (fun _ => hR) ?_
                · refine o_bin rfl rfl rfl ?_
                  exact hK
                try dsimp only [putL, setL, evL, getL]
                refine HK_readP 20 (v := .bool (u346 == u347)) rfl (by kernel_rfl) (fun c l s h => hQp c l s h) rfl (fun s' K hK => ?_) rfl rfl (fun _ => hR) ?_
                · refine o_pickT rfl hb345 ?_
                  exact hK
                try dsimp only [putL, setL, evL, getL]
                refine HK_one 21 (by kernel_rfl) rfl (fun _ => hR) rfl ?_
                refine o_assign ?_
                try dsimp only [putL, setL, evL, getL]
                refine HK_done (fun _ => hR) (by kernel_rfl) ?_
                exact hK338 _ _ ⟨u346 == u347, H, rfl, hH⟩
              · replace H := iteF hb345 H
                refine HK_pass 11 rfl (by kernel_rfl) (fun c l s h => hQp c l s h) ?_ hR ?_
                · exact wantF (j := 10) (b := true) (t := 41) (c := decide (x260 < (p1.length : Int))) rfl rfl rfl rfl hb345
                try dsimp only [putL, setL, evL, getL]
                refine HK_pass 12 rfl (by kernel_rfl) (fun c l s h => hQp c l s h) ?_ hR ?_
                · exact wantF (j := 10) (b := true) (t := 41) (c := decide (x260 < (p1.length : Int))) rfl rfl rfl rfl hb345
                try dsimp only [putL, setL, evL, getL]
                refine HK_pass 13 rfl (by kernel_rfl) (fun c l s h => hQp c l s h) ?_ hR ?_
                · exact wantF (j := 10) (b := true) (t := 41) (c := decide (x260 < (p1.length : Int))) rfl rfl rfl rfl hb345
                try dsimp only [putL, setL, evL, getL]
                refine HK_pass 14 rfl (by kernel_rfl) (fun c l s h => hQp c l s h) ?_ hR ?_
                · exact wantF (j := 10) (b := true) (t := 41) (c := decide (x260 < (p1.length : Int))) rfl rfl rfl rfl hb345
                try dsimp only [putL, setL, evL, getL]
                refine HK_pass 15 rfl (by kernel_rfl) (fun c l s h => hQp c l s h) ?_ hR ?_
                · exact wantF (j := 10) (b := true) (t := 41) (c := decide (x260 < (p1.length : Int))) rfl rfl rfl rfl hb345
                try dsimp only [putL, setL, evL, getL]
                refine HK_pass 16 rfl (by kernel_rfl) (fun c l s h => hQp c l s h) ?_ hR ?_
                · exact wantF (j := 10) (b := true) (t := 41) (c := decide (x260 < (p1.length : Int))) rfl rfl rfl rfl hb345
                try dsimp only [putL, setL, evL, getL]
                refine HK_pass 17 rfl (by kernel_rfl) (fun c l s h => hQp c l s h) ?_ hR ?_
                · exact wantF (j := 10) (b := true) (t := 41) (c := decide (x260 < (p1.length : Int))) rfl rfl rfl rfl hb345
                try dsimp only [putL, setL, evL, getL]
                refine HK_pass 18 rfl (by kernel_rfl) (fun c l s h => hQp c l s h) ?_ hR ?_
                · exact wantF (j := 10) (b := true) (t := 41) (c := decide (x260 < (p1.length : Int))) rfl rfl rfl rfl hb345
                try dsimp only [putL, setL, evL, getL]
                refine HK_pass 19 rfl (by kernel_rfl) (fun c l s h => hQp c l s h) ?_ hR ?_
                · exact wantF (j := 10) (b := true) (t := 41) (c := decide (x260 < (p1.length : Int))) rfl rfl rfl rfl hb345
                try dsimp only [putL, setL, evL, getL]
                refine HK_readP 20 (v := .bool false) rfl (by kernel_rfl) (fun c l s h => hQp c l s h) rfl (fun s' K hK => ?_) rfl rfl (fun _ => hR) ?_
                · refine o_pickF rfl hb345 ?_
                  exact hK
                try dsimp only [putL, setL, evL, getL]
                refine HK_one 21 (by kernel_rfl) rfl (fun _ => hR) rfl ?_
                refine o_assign ?_
                try dsimp only [putL, setL, evL, getL]
                refine HK_done (fun _ => hR) (by kernel_rfl) ?_
                exact hK338 _ _ ⟨false, H, rfl, hH⟩
            · replace H := iteF hb344 H
              refine HK_pass 5 rfl (by kernel_rfl) (fun c l s h => hQp c l s h) ?_ hR ?_
              · exact wantF (j := 4) (b := true) (t := 35) (c := decide (x259 < (p0.length : Int))) rfl rfl rfl rfl hb344
              try dsimp only [putL, setL, evL, getL]
              refine HK_pass 6 rfl (by kernel_rfl) (fun c l s h => hQp c l s h) ?_ hR ?_
              · exact wantF (j := 4) (b := true) (t := 35) (c := decide (x259 < (p0.length : Int))) rfl rfl rfl rfl hb344
              try dsimp only [putL, setL, evL, getL]
              refine HK_pass 7 rfl (by kernel_rfl) (fun c l s h => hQp c l s h) ?_ hR ?_
              · exact wantF (j := 4) (b := true) (t := 35) (c := decide (x259 < (p0.length : Int))) rfl rfl rfl rfl hb344
              try dsimp only [putL, setL, evL, getL]
              refine HK_pass 8 rfl (by kernel_rfl) (fun c l s h => hQp c l s h) ?_ hR ?_
              · exact wantF (j := 4) (b := true) (t := 35) (c := decide (x259 < (p0.length : Int))) rfl rfl rfl rfl hb344
              try dsimp only [putL, setL, evL, getL]
              refine HK_readP 9 (v := .bool false) rfl (by kernel_rfl) (fun c l s h => hQp c l s h) rfl (fun s' K hK => ?_) rfl rfl (fun _ => hR) ?_
              · refine o_pickF rfl hb344 ?_
                exact hK
              try dsimp only [putL, setL, evL, getL]
              refine HK_readP 10 (v := .bool false) rfl (by kernel_rfl) (fun c l s h => hQp c l s h) rfl (fun s' K hK => ?_) rfl rfl (fun _ => hR) ?_
              · refine o_move ?_
                exact hK
              try dsimp only [putL, setL, evL, getL]
              refine HK_pass 11 rfl (by kernel_rfl) (fun c l s h => hQp c l s h) ?_ hR ?_
              · exact wantF (j := 10) (b := true) (t := 41) (c := false) rfl rfl rfl rfl rfl
              try dsimp only [putL, setL, evL, getL]
              refine HK_pass 12 rfl (by kernel_rfl) (fun c l s h => hQp c l s h) ?_ hR ?_
              · exact wantF (j := 10) (b := true) (t := 41) (c := false) rfl rfl rfl rfl rfl
              try dsimp only [putL, setL, evL, getL]
              refine HK_pass 13 rfl (by kernel_rfl) (fun c l s h => hQp c l s h) ?_ hR ?_
              · exact wantF (j := 10) (b := true) (t := 41) (c := false) rfl rfl rfl rfl rfl
              try dsimp only [putL, setL, evL, getL]
              refine HK_pass 14 rfl (by kernel_rfl) (fun c l s h => hQp c l s h) ?_ hR ?_
              · exact wantF (j := 10) (b := true) (t := 41) (c := false) rfl rfl rfl rfl rfl
              try dsimp only [putL, setL, evL, getL]
              refine HK_pass 15 rfl (by kernel_rfl) (fun c l s h => hQp c l s h) ?_ hR ?_
              · exact wantF (j := 10) (b := true) (t := 41) (c := false) rfl rfl rfl rfl rfl
              try dsimp only [putL, setL, evL, getL]
              refine HK_pass 16 rfl (by kernel_rfl) (fun c l s h => hQp c l s h) ?_ hR ?_
              · exact wantF (j := 10) (b := true) (t := 41) (c := false) rfl rfl rfl rfl rfl
              try dsimp only [putL, setL, evL, getL]
              refine HK_pass 17 rfl (by kernel_rfl) (fun c l s h => hQp c l s h) ?_ hR ?_
              · exact wantF (j := 10) (b := true) (t := 41) (c := false) rfl rfl rfl rfl rfl
              try dsimp only [putL, setL, evL, getL]
              refine HK_pass 18 rfl (by kernel_rfl) (fun c l s h => hQp c l s h) ?_ hR ?_
              · exact wantF (j := 10) (b := true) (t := 41) (c := false) rfl rfl rfl rfl rfl
              try dsimp only [putL, setL, evL, getL]
              refine HK_pass 19 rfl (by kernel_rfl) (fun c l s h => hQp c l s h) ?_ hR ?_
              · exact wantF (j := 10) (b := true) (t := 41) (c := false) rfl rfl rfl rfl rfl
              try dsimp only [putL, setL, evL, getL]
              refine HK_readP 20 (v := .bool false) rfl (by kernel_rfl) (fun c l s h => hQp c l s h) rfl (fun s' K hK => ?_) rfl rfl (fun _ => hR) ?_
              · refine o_pickF rfl rfl ?_
                exact hK
              try dsimp only [putL, setL, evL, getL]
              refine HK_one 21 (by kernel_rfl) rfl (fun _ => hR) rfl ?_
              refine o_assign ?_
              try dsimp only [putL, setL, evL, getL]
              refine HK_done (fun _ => hR) (by kernel_rfl) ?_
              exact hK338 _ _ ⟨false, H, rfl, hH⟩
          · rintro l' s348 ⟨x343, H, hl, hH⟩
            generalize getL l' 31 = j31, getL l' 32 = j32, getL l' 33 = j33, getL l' 34 = j34, getL l' 35 = j35, getL l' 36 = j36, getL l' 37 = j37, getL l' 38 = j38, getL l' 39 = j39, getL l' 40 = j40, getL l' 41 = j41, getL l' 42 = j42, getL l' 43 = j43, getL l' 44 = j44, getL l' 45 = j45, getL l' 46 = j46, getL l' 47 = j47, getL l' 48 = j48, getL l' 49 = j49, getL l' 50 = j50, getL l' 51 = j51 at hl
            subst hl
            replace H := hG338 _ H
            try dsimp only at H
            rcases Bool.eq_false_or_eq_true x343 with hb349 | hb349
            · replace H := iteT hb349 H
              refine HT_true (congrArg Value.bool hb349) ?_
              refine HT_seq_k ?_
              intro K350 hK350
              refine HT_region ?_
              refine HL_cons rfl ?_
              refine o_move ?_
              try dsimp only [putL, setL, evL, getL]
              refine HL_cons rfl ?_
              refine o_move ?_
              try dsimp only [putL, setL, evL, getL]
              refine HL_cons rfl ?_
              refine o_move ?_
              try dsimp only [putL, setL, evL, getL]
              obtain ⟨u351, hu351, H⟩ := headE H
              obtain ⟨b351, o351, cs351, hr351, hh351, hel351⟩ := Rd.elb HRp0 hu351
              obtain rfl := hr351
              refine HL_cons rfl ?_
              refine hel351 s348 rfl rfl Try.underlying22 tI3 ?_
              try dsimp only [putL, setL, evL, getL]
              refine HL_cons rfl ?_
              refine o_load' rfl Try.underlying3 rfl ((hh351 hH.bs.mono) 0 _ rfl) ?_
              try dsimp only [putL, setL, evL, getL]
              obtain ⟨u352, hu352, H⟩ := headE H
              obtain ⟨F1, hA, hB⟩ := hH.take [1] (by decide)
              dsimp only [addC, setC, rmC, selC, getC] at hA
              refine HL_cons rfl ?_
              refine o_call (args := #[.slice A258 x258.length c258, .int .i64 1, .int .i64 u351]) Try.func144 rfl rfl rfl (spec_l15Add.ok sb s348 F1 A258 c258 x258 1 u351 hA _ hu352) ?_
              rintro _ s352 ⟨A353, c353, rfl, hD⟩
              replace hH := hB _ _ _ (Up.refl _ _ _) hD
              clear hD hA hB
              dsimp only [addC, setC, rmC, selC, getC] at hH
              try dsimp only [putL, setL, evL, getL]
              refine HL_cons rfl ?_
              refine o_assign ?_
              try dsimp only [putL, setL, evL, getL]
              refine HL_nil ?_
              refine hK350 _ _ ?_
              refine HT_seq_k ?_
              intro K354 hK354
              refine HT_region ?_
              refine HL_cons rfl ?_
              refine o_move ?_
              try dsimp only [putL, setL, evL, getL]
              refine HL_cons rfl ?_
              refine o_bin rfl rfl rfl ?_
              try dsimp only [putL, setL, evL, getL]
              refine HL_cons rfl ?_
              refine o_assign ?_
              try dsimp only [putL, setL, evL, getL]
              refine HL_nil ?_
              refine hK354 _ _ ?_
              refine HT_region ?_
              refine HL_cons rfl ?_
              refine o_move ?_
              try dsimp only [putL, setL, evL, getL]
              refine HL_cons rfl ?_
              refine o_bin rfl rfl rfl ?_
              try dsimp only [putL, setL, evL, getL]
              refine HL_cons rfl ?_
              refine o_assign ?_
              try dsimp only [putL, setL, evL, getL]
              refine HL_nil ?_
              exact hK323 _ _ ⟨kf, Nat.lt_succ_self kf, u352, A353, c353, IntKind.i64.wrap (x259 + 1), IntKind.i64.wrap (x260 + 1), H, rfl, hH.sel [2, 0] (by decide)⟩
            · replace H := iteF hb349 H
              refine HT_false (congrArg Value.bool hb349) ?_
              refine joinH H fun G355 hG355 H => ?_
              refine HT_joinK (fun l' s' => ∃ (x364 : Bool), G355 x364 = some r ∧ l' = [.slice A0p p0.length c0p, .slice A1p p1.length c1p, undef, undef, .slice none 0 0, .slice A4 u3.length c4, .slice A258 x258.length c258, .int .i64 x259, .int .i64 x260, .slice A0p p0.length c0p, .slice A1p p1.length c1p, .slice A4 u3.length c4, j12, j13, j14, j15, j16, j17, j18, j19, j20, .bool x334, j22, j23, j24, j25, j26, j27, j28, j29, .bool x343, j31, j32, j33, j34, j35, j36, j37, j38, j39, j40, j41, j42, j43, j44, j45, j46, j47, j48, j49, j50, j51, j52, j53, j54, j55, j56, j57, j58, j59, j60, j61, .bool x364, getL l' 63, getL l' 64, getL l' 65, getL l' 66, getL l' 67, getL l' 68, getL l' 69, getL l' 70, getL l' 71, getL l' 72, getL l' 73, getL l' 74, getL l' 75, getL l' 76, getL l' 77, getL l' 78, getL l' 79, getL l' 80, getL l' 81, getL l' 82, getL l' 83, getL l' 84, getL l' 85, getL l' 86, getL l' 87, getL l' 88, getL l' 89, getL l' 90, j91, j92, j93, j94, j95, j96, j97, j98, undef] ∧ Hp sb s F0 s' [Ck.ol (Ow.sl OI 3) 22 A4 c4 u3, Ck.ol OS99 99 A258 c258 x258]) ?_ ?_
              · intro K355 hK355
                refine HK_draw (fun s' => Gro s348 s') 30 hMix ?_
                have hR := Gro.refl s348
                have hH0 := hH
                refine HK_readP 0 (v := .int .i64 x259) rfl (by kernel_rfl) (fun c l s h => hQp c l s h) rfl (fun s' K hK => ?_) rfl rfl (fun _ => hR) ?_
                · refine o_move ?_
                  exact hK
                try dsimp only [putL, setL, evL, getL]
                refine HK_readP 1 (v := .slice A0p p0.length c0p) rfl (by kernel_rfl) (fun c l s h => hQp c l s h) rfl (fun s' K hK => ?_) rfl rfl (fun _ => hR) ?_
                · refine o_move ?_
                  exact hK
                try dsimp only [putL, setL, evL, getL]
                refine HK_readP 2 (v := .int .i64 (p0.length : Int)) rfl (by kernel_rfl) (fun c l s h => hQp c l s h) rfl (fun s' K hK => ?_) rfl rfl (fun _ => hR) ?_
                · refine o_len rfl Try.underlying22 ?_
                  exact hK
                try dsimp only [putL, setL, evL, getL]
                refine HK_readP 3 (v := .bool (decide (x259 < (p0.length : Int)))) rfl (by kernel_rfl) (fun c l s h => hQp c l s h) rfl (fun s' K hK => ?_) rfl rfl (fun _ => hR) ?_
                · refine o_bin rfl rfl rfl ?_
                  exact hK
                try dsimp only [putL, setL, evL, getL]
                refine HK_readP 4 (v := .bool (decide (x259 < (p0.length : Int)))) rfl (by kernel_rfl) (fun c l s h => hQp c l s h) rfl (fun s' K hK => ?_) rfl rfl (fun _ => hR) ?_
                · refine o_move ?_
                  exact hK
                try dsimp only [putL, setL, evL, getL]
                rcases Bool.eq_false_or_eq_true (decide (x259 < (p0.length : Int))) with hb365 | hb365
                · replace H := iteT hb365 H
                  refine HK_readP 5 (v := .int .i64 x260) rfl (by kernel_rfl) (fun c l s h => hQp c l s h) (wantT (j := 4) (b := true) (t := 67) (c := decide (x259 < (p0.length : Int))) rfl rfl rfl rfl hb365) (fun s' K hK => ?_) rfl rfl (fun _ => hR) ?_
                  · refine o_move ?_
                    exact hK
                  try dsimp only [putL, setL, evL, getL]
                  refine HK_readP 6 (v := .slice A1p p1.length c1p) rfl (by kernel_rfl) (fun c l s h => hQp c l s h) (wantT (j := 4) (b := true) (t := 67) (c := decide (x259 < (p0.length : Int))) rfl rfl rfl rfl hb365) (fun s' K hK => ?_) rfl rfl (fun _ => hR) ?_
                  · refine o_move ?_
                    exact hK
                  try dsimp only [putL, setL, evL, getL]
                  refine HK_readP 7 (v := .int .i64 (p1.length : Int)) rfl (by kernel_rfl) (fun c l s h => hQp c l s h) (wantT (j := 4) (b := true) (t := 67) (c := decide (x259 < (p0.length : Int))) rfl rfl rfl rfl hb365) (fun s' K hK => ?_) rfl rfl (fun _ => hR) ?_
                  · refine o_len rfl Try.underlying22 ?_
                    exact hK
                  try dsimp only [putL, setL, evL, getL]
                  refine HK_readP 8 (v := .bool (x260 == (p1.length : Int))) rfl (by kernel_rfl) (fun c l s h => hQp c l s h) (wantT (j := 4) (b := true) (t := 67) (c := decide (x259 < (p0.length : Int))) rfl rfl rfl rfl hb365) (fun s' K hK => ?_) rfl rfl (fun _ => hR) ?_
                  · refine o_bin rfl rfl rfl ?_
                    exact hK
                  try dsimp only [putL, setL, evL, getL]
                  refine HK_readP 9 (v := .bool (x260 == (p1.length : Int))) rfl (by kernel_rfl) (fun c l s h => hQp c l s h) (wantT (j := 4) (b := true) (t := 67) (c := decide (x259 < (p0.length : Int))) rfl rfl rfl rfl hb365) (fun s' K hK => ?_) rfl rfl (fun _ => hR) ?_
                  · refine o_move ?_
                    exact hK
                  try dsimp only [putL, setL, evL, getL]
                  rcases Bool.eq_false_or_eq_true (x260 == (p1.length : Int)) with hb366 | hb366
                  · replace H := iteT hb366 H
                    refine HK_pass 10 rfl (by kernel_rfl) (fun c l s h => hQp c l s h) ?_ hR ?_
                    · exact wantF (j := 9) (b := false) (t := 72) (c := x260 == (p1.length : Int)) rfl rfl rfl rfl hb366
                    try dsimp only [putL, setL, evL, getL]
                    refine HK_pass 11 rfl (by kernel_rfl) (fun c l s h => hQp c l s h) ?_ hR ?_
                    · exact wantF (j := 9) (b := false) (t := 72) (c := x260 == (p1.length : Int)) rfl rfl rfl rfl hb366
                    try dsimp only [putL, setL, evL, getL]
                    refine HK_pass 12 rfl (by kernel_rfl) (fun c l s h => hQp c l s h) ?_ hR ?_
                    · exact wantF (j := 9) (b := false) (t := 72) (c := x260 == (p1.length : Int)) rfl rfl rfl rfl hb366
                    try dsimp only [putL, setL, evL, getL]
                    refine HK_pass 13 rfl (by kernel_rfl) (fun c l s h => hQp c l s h) ?_ hR ?_
                    · exact wantF (j := 9) (b := false) (t := 72) (c := x260 == (p1.length : Int)) rfl rfl rfl rfl hb366
                    try dsimp only [putL, setL, evL, getL]
                    refine HK_pass 14 rfl (by kernel_rfl) (fun c l s h => hQp c l s h) ?_ hR ?_
                    · exact wantF (j := 9) (b := false) (t := 72) (c := x260 == (p1.length : Int)) rfl rfl rfl rfl hb366
                    try dsimp only [putL, setL, evL, getL]
                    refine HK_pass 15 rfl (by kernel_rfl) (fun c l s h => hQp c l s h) ?_ hR ?_
                    · exact wantF (j := 9) (b := false) (t := 72) (c := x260 == (p1.length : Int)) rfl rfl rfl rfl hb366
                    try dsimp only [putL, setL, evL, getL]
                    refine HK_pass 16 rfl (by kernel_rfl) (fun c l s h => hQp c l s h) ?_ hR ?_
                    · exact wantF (j := 9) (b := false) (t := 72) (c := x260 == (p1.length : Int)) rfl rfl rfl rfl hb366
                    try dsimp only [putL, setL, evL, getL]
                    refine HK_pass 17 rfl (by kernel_rfl) (fun c l s h => hQp c l s h) ?_ hR ?_
                    · exact wantF (j := 9) (b := false) (t := 72) (c := x260 == (p1.length : Int)) rfl rfl rfl rfl hb366
                    try dsimp only [putL, setL, evL, getL]
                    refine HK_pass 18 rfl (by kernel_rfl) (fun c l s h => hQp c l s h) ?_ hR ?_
                    · exact wantF (j := 9) (b := false) (t := 72) (c := x260 == (p1.length : Int)) rfl rfl rfl rfl hb366
                    try dsimp only [putL, setL, evL, getL]
                    refine HK_pass 19 rfl (by kernel_rfl) (fun c l s h => hQp c l s h) ?_ hR ?_
                    · exact wantF (j := 9) (b := false) (t := 72) (c := x260 == (p1.length : Int)) rfl rfl rfl rfl hb366
                    try dsimp only [putL, setL, evL, getL]
                    refine HK_pass 20 rfl (by kernel_rfl) (fun c l s h => hQp c l s h) ?_ hR ?_
                    · exact wantF (j := 9) (b := false) (t := 72) (c := x260 == (p1.length : Int)) rfl rfl rfl rfl hb366
                    try dsimp only [putL, setL, evL, getL]
                    refine HK_pass 21 rfl (by kernel_rfl) (fun c l s h => hQp c l s h) ?_ hR ?_
                    · exact wantF (j := 9) (b := false) (t := 72) (c := x260 == (p1.length : Int)) rfl rfl rfl rfl hb366
                    try dsimp only [putL, setL, evL, getL]
                    refine HK_pass 22 rfl (by kernel_rfl) (fun c l s h => hQp c l s h) ?_ hR ?_
                    · exact wantF (j := 9) (b := false) (t := 72) (c := x260 == (p1.length : Int)) rfl rfl rfl rfl hb366
                    try dsimp only [putL, setL, evL, getL]
                    refine HK_pass 23 rfl (by kernel_rfl) (fun c l s h => hQp c l s h) ?_ hR ?_
                    · exact wantF (j := 9) (b := false) (t := 72) (c := x260 == (p1.length : Int)) rfl rfl rfl rfl hb366
                    try dsimp only [putL, setL, evL, getL]
                    refine HK_pass 24 rfl (by kernel_rfl) (fun c l s h => hQp c l s h) ?_ hR ?_
                    · exact wantF (j := 9) (b := false) (t := 72) (c := x260 == (p1.length : Int)) rfl rfl rfl rfl hb366
                    try dsimp only [putL, setL, evL, getL]
                    refine HK_pass 25 rfl (by kernel_rfl) (fun c l s h => hQp c l s h) ?_ hR ?_
                    · exact wantF (j := 9) (b := false) (t := 72) (c := x260 == (p1.length : Int)) rfl rfl rfl rfl hb366
                    try dsimp only [putL, setL, evL, getL]
                    refine HK_readP 26 (v := .bool true) rfl (by kernel_rfl) (fun c l s h => hQp c l s h) (wantT (j := 4) (b := true) (t := 67) (c := decide (x259 < (p0.length : Int))) rfl rfl rfl rfl hb365) (fun s' K hK => ?_) rfl rfl (fun _ => hR) ?_
                    · refine o_pickT rfl hb366 ?_
                      exact hK
                    try dsimp only [putL, setL, evL, getL]
                    refine HK_readP 27 (v := .bool true) rfl (by kernel_rfl) (fun c l s h => hQp c l s h) rfl (fun s' K hK => ?_) rfl rfl (fun _ => hR) ?_
                    · refine o_pickT rfl hb365 ?_
                      exact hK
                    try dsimp only [putL, setL, evL, getL]
                    refine HK_one 28 (by kernel_rfl) rfl (fun _ => hR) rfl ?_
                    refine o_assign ?_
                    try dsimp only [putL, setL, evL, getL]
                    refine HK_done (fun _ => hR) (by kernel_rfl) ?_
                    exact hK355 _ _ ⟨true, H, rfl, hH⟩
                  · replace H := iteF hb366 H
                    refine HK_readP 10 (v := .slice A4 u3.length c4) rfl (by kernel_rfl) (fun c l s h => hQp c l s h) (wantT (j := 9) (b := false) (t := 72) (c := x260 == (p1.length : Int)) rfl rfl rfl rfl hb366) (fun s' K hK => ?_) rfl rfl (fun _ => hR) ?_
                    · refine o_move ?_
                      exact hK
                    try dsimp only [putL, setL, evL, getL]
                    refine HK_readP 11 (v := .int .i64 x259) rfl (by kernel_rfl) (fun c l s h => hQp c l s h) (wantT (j := 9) (b := false) (t := 72) (c := x260 == (p1.length : Int)) rfl rfl rfl rfl hb366) (fun s' K hK => ?_) rfl rfl (fun _ => hR) ?_
                    · refine o_move ?_
                      exact hK
                    try dsimp only [putL, setL, evL, getL]
                    refine HK_readP 12 (v := .int .i64 (IntKind.i64.wrap (x259 + 1))) rfl (by kernel_rfl) (fun c l s h => hQp c l s h) (wantT (j := 9) (b := false) (t := 72) (c := x260 == (p1.length : Int)) rfl rfl rfl rfl hb366) (fun s' K hK => ?_) rfl rfl (fun _ => hR) ?_
                    · refine o_bin rfl rfl rfl ?_
                      exact hK
                    try dsimp only [putL, setL, evL, getL]
                    obtain ⟨u367, hu367, H⟩ := headE H
                    obtain ⟨b367, o367, cs367, hA367, hr367, hh367, hel367⟩ := hH0.elo 0 rfl hu367
                    obtain ⟨A368, c368, rfl, D368⟩ := hr367
                    refine HK_readP 13 (v := .pointer (some ⟨b367, o367 + Int.toNat (IntKind.i64.wrap (x259 + 1)) * Kd.sz (Kd.sl KI), none⟩)) rfl (by kernel_rfl) (fun c l s h => hQp c l s h) (wantT (j := 9) (b := false) (t := 72) (c := x260 == (p1.length : Int)) rfl rfl rfl rfl hb366) (fun s' K hK => ?_) rfl rfl (fun _ => hR) ?_
                    · refine hel367 s' rfl rfl Try.underlying148 tI22 ?_
                      exact hK
                    try dsimp only [putL, setL, evL, getL]
                    refine HK_read 14 (v := .slice A368 u367.length c368) rfl (by kernel_rfl) (fun c l s h => hQp c l s h) (wantT (j := 9) (b := false) (t := 72) (c := x260 == (p1.length : Int)) rfl rfl rfl rfl hb366) (fun s' hR' K hK => ?_) rfl rfl hR ?_
                    · refine o_load' rfl Try.underlying22 rfl (has_gro hR' (hh367 0 _ rfl)) ?_
                      exact hK
                    try dsimp only [putL, setL, evL, getL]
                    refine HK_readP 15 (v := .int .i64 x260) rfl (by kernel_rfl) (fun c l s h => hQp c l s h) (wantT (j := 9) (b := false) (t := 72) (c := x260 == (p1.length : Int)) rfl rfl rfl rfl hb366) (fun s' K hK => ?_) rfl rfl (fun _ => hR) ?_
                    · refine o_move ?_
                      exact hK
                    try dsimp only [putL, setL, evL, getL]
                    obtain ⟨u369, hu369, H⟩ := headE H
                    obtain ⟨b369, o369, cs369, hr369, hh369, hel369⟩ := Rd.el D368 hu369
                    obtain rfl := hr369
                    refine HK_readP 16 (v := .pointer (some ⟨b369, o369, none⟩)) rfl (by kernel_rfl) (fun c l s h => hQp c l s h) (wantT (j := 9) (b := false) (t := 72) (c := x260 == (p1.length : Int)) rfl rfl rfl rfl hb366) (fun s' K hK => ?_) rfl rfl (fun _ => hR) ?_
                    · refine hel369 s' rfl rfl Try.underlying22 tI3 ?_
                      exact hK
                    try dsimp only [putL, setL, evL, getL]
                    refine HK_read 17 (v := .int .i64 u369) rfl (by kernel_rfl) (fun c l s h => hQp c l s h) (wantT (j := 9) (b := false) (t := 72) (c := x260 == (p1.length : Int)) rfl rfl rfl rfl hb366) (fun s' hR' K hK => ?_) rfl rfl hR ?_
                    · refine o_load' rfl Try.underlying3 rfl (has_gro hR' (hh369 0 _ rfl)) ?_
                      exact hK
                    try dsimp only [putL, setL, evL, getL]
                    refine HK_readP 18 (v := .slice A4 u3.length c4) rfl (by kernel_rfl) (fun c l s h => hQp c l s h) (wantT (j := 9) (b := false) (t := 72) (c := x260 == (p1.length : Int)) rfl rfl rfl rfl hb366) (fun s' K hK => ?_) rfl rfl (fun _ => hR) ?_
                    · refine o_move ?_
                      exact hK
                    try dsimp only [putL, setL, evL, getL]
                    refine HK_readP 19 (v := .int .i64 x259) rfl (by kernel_rfl) (fun c l s h => hQp c l s h) (wantT (j := 9) (b := false) (t := 72) (c := x260 == (p1.length : Int)) rfl rfl rfl rfl hb366) (fun s' K hK => ?_) rfl rfl (fun _ => hR) ?_
                    · refine o_move ?_
                      exact hK
                    try dsimp only [putL, setL, evL, getL]
                    obtain ⟨u370, hu370, H⟩ := headE H
                    obtain ⟨b370, o370, cs370, hA370, hr370, hh370, hel370⟩ := hH0.elo 0 rfl hu370
                    obtain ⟨A371, c371, rfl, D371⟩ := hr370
                    refine HK_readP 20 (v := .pointer (some ⟨b370, o370 + Int.toNat x259 * Kd.sz (Kd.sl KI), none⟩)) rfl (by kernel_rfl) (fun c l s h => hQp c l s h) (wantT (j := 9) (b := false) (t := 72) (c := x260 == (p1.length : Int)) rfl rfl rfl rfl hb366) (fun s' K hK => ?_) rfl rfl (fun _ => hR) ?_
                    · refine hel370 s' rfl rfl Try.underlying148 tI22 ?_
                      exact hK
                    try dsimp only [putL, setL, evL, getL]
                    refine HK_read 21 (v := .slice A371 u370.length c371) rfl (by kernel_rfl) (fun c l s h => hQp c l s h) (wantT (j := 9) (b := false) (t := 72) (c := x260 == (p1.length : Int)) rfl rfl rfl rfl hb366) (fun s' hR' K hK => ?_) rfl rfl hR ?_
                    · refine o_load' rfl Try.underlying22 rfl (has_gro hR' (hh370 0 _ rfl)) ?_
                      exact hK
                    try dsimp only [putL, setL, evL, getL]
                    refine HK_readP 22 (v := .int .i64 x260) rfl (by kernel_rfl) (fun c l s h => hQp c l s h) (wantT (j := 9) (b := false) (t := 72) (c := x260 == (p1.length : Int)) rfl rfl rfl rfl hb366) (fun s' K hK => ?_) rfl rfl (fun _ => hR) ?_
                    · refine o_move ?_
                      exact hK
                    try dsimp only [putL, setL, evL, getL]
                    obtain ⟨u372, hu372, H⟩ := headE H
                    obtain ⟨b372, o372, cs372, hr372, hh372, hel372⟩ := Rd.el D371 hu372
                    obtain rfl := hr372
                    refine HK_readP 23 (v := .pointer (some ⟨b372, o372, none⟩)) rfl (by kernel_rfl) (fun c l s h => hQp c l s h) (wantT (j := 9) (b := false) (t := 72) (c := x260 == (p1.length : Int)) rfl rfl rfl rfl hb366) (fun s' K hK => ?_) rfl rfl (fun _ => hR) ?_
                    · refine hel372 s' rfl rfl Try.underlying22 tI3 ?_
                      exact hK
                    try dsimp only [putL, setL, evL, getL]
                    refine HK_read 24 (v := .int .i64 u372) rfl (by kernel_rfl) (fun c l s h => hQp c l s h) (wantT (j := 9) (b := false) (t := 72) (c := x260 == (p1.length : Int)) rfl rfl rfl rfl hb366) (fun s' hR' K hK => ?_) rfl rfl hR ?_
                    · refine o_load' rfl Try.underlying3 rfl (has_gro hR' (hh372 0 _ rfl)) ?_
                      exact hK
                    try dsimp only [putL, setL, evL, getL]
                    refine HK_readP 25 (v := .bool (u369 == u372)) rfl (by kernel_rfl) (fun c l s h => hQp c l s h) (wantT (j := 9) (b := false) (t := 72) (c := x260 == (p1.length : Int)) rfl rfl rfl rfl hb366) (fun s' K hK => ?_) rfl rfl (fun _ => hR) ?_
                    · refine o_bin rfl rfl rfl ?_
                      exact hK
                    try dsimp only [putL, setL, evL, getL]
                    refine HK_readP 26 (v := .bool (u369 == u372)) rfl (by kernel_rfl) (fun c l s h => hQp c l s h) (wantT (j := 4) (b := true) (t := 67) (c := decide (x259 < (p0.length : Int))) rfl rfl rfl rfl hb365) (fun s' K hK => ?_) rfl rfl (fun _ => hR) ?_
                    · refine o_pickF rfl hb366 ?_
                      exact hK
                    try dsimp only [putL, setL, evL, getL]
                    refine HK_readP 27 (v := .bool (u369 == u372)) rfl (by kernel_rfl) (fun c l s h => hQp c l s h) rfl (fun s' K hK => ?_) rfl rfl (fun _ => hR) ?_
                    · refine o_pickT rfl hb365 ?_
                      exact hK
                    try dsimp only [putL, setL, evL, getL]
                    refine HK_one 28 (by kernel_rfl) rfl (fun _ => hR) rfl ?_
                    refine o_assign ?_
                    try dsimp only [putL, setL, evL, getL]
                    refine HK_done (fun _ => hR) (by kernel_rfl) ?_
                    exact hK355 _ _ ⟨u369 == u372, H, rfl, hH⟩
                · replace H := iteF hb365 H
                  refine HK_pass 5 rfl (by kernel_rfl) (fun c l s h => hQp c l s h) ?_ hR ?_
                  · exact wantF (j := 4) (b := true) (t := 67) (c := decide (x259 < (p0.length : Int))) rfl rfl rfl rfl hb365
                  try dsimp only [putL, setL, evL, getL]
                  refine HK_pass 6 rfl (by kernel_rfl) (fun c l s h => hQp c l s h) ?_ hR ?_
                  · exact wantF (j := 4) (b := true) (t := 67) (c := decide (x259 < (p0.length : Int))) rfl rfl rfl rfl hb365
                  try dsimp only [putL, setL, evL, getL]
                  refine HK_pass 7 rfl (by kernel_rfl) (fun c l s h => hQp c l s h) ?_ hR ?_
                  · exact wantF (j := 4) (b := true) (t := 67) (c := decide (x259 < (p0.length : Int))) rfl rfl rfl rfl hb365
                  try dsimp only [putL, setL, evL, getL]
                  refine HK_pass 8 rfl (by kernel_rfl) (fun c l s h => hQp c l s h) ?_ hR ?_
                  · exact wantF (j := 4) (b := true) (t := 67) (c := decide (x259 < (p0.length : Int))) rfl rfl rfl rfl hb365
                  try dsimp only [putL, setL, evL, getL]
                  refine HK_pass 9 rfl (by kernel_rfl) (fun c l s h => hQp c l s h) ?_ hR ?_
                  · exact wantF (j := 4) (b := true) (t := 67) (c := decide (x259 < (p0.length : Int))) rfl rfl rfl rfl hb365
                  try dsimp only [putL, setL, evL, getL]
                  refine HK_pass 10 rfl (by kernel_rfl) (fun c l s h => hQp c l s h) ?_ hR ?_
                  · exact wantU (j := 9) (b := false) (t := 72) rfl rfl rfl rfl
                  try dsimp only [putL, setL, evL, getL]
                  refine HK_pass 11 rfl (by kernel_rfl) (fun c l s h => hQp c l s h) ?_ hR ?_
                  · exact wantU (j := 9) (b := false) (t := 72) rfl rfl rfl rfl
                  try dsimp only [putL, setL, evL, getL]
                  refine HK_pass 12 rfl (by kernel_rfl) (fun c l s h => hQp c l s h) ?_ hR ?_
                  · exact wantU (j := 9) (b := false) (t := 72) rfl rfl rfl rfl
                  try dsimp only [putL, setL, evL, getL]
                  refine HK_pass 13 rfl (by kernel_rfl) (fun c l s h => hQp c l s h) ?_ hR ?_
                  · exact wantU (j := 9) (b := false) (t := 72) rfl rfl rfl rfl
                  try dsimp only [putL, setL, evL, getL]
                  refine HK_pass 14 rfl (by kernel_rfl) (fun c l s h => hQp c l s h) ?_ hR ?_
                  · exact wantU (j := 9) (b := false) (t := 72) rfl rfl rfl rfl
                  try dsimp only [putL, setL, evL, getL]
                  refine HK_pass 15 rfl (by kernel_rfl) (fun c l s h => hQp c l s h) ?_ hR ?_
                  · exact wantU (j := 9) (b := false) (t := 72) rfl rfl rfl rfl
                  try dsimp only [putL, setL, evL, getL]
                  refine HK_pass 16 rfl (by kernel_rfl) (fun c l s h => hQp c l s h) ?_ hR ?_
                  · exact wantU (j := 9) (b := false) (t := 72) rfl rfl rfl rfl
                  try dsimp only [putL, setL, evL, getL]
                  refine HK_pass 17 rfl (by kernel_rfl) (fun c l s h => hQp c l s h) ?_ hR ?_
                  · exact wantU (j := 9) (b := false) (t := 72) rfl rfl rfl rfl
                  try dsimp only [putL, setL, evL, getL]
                  refine HK_pass 18 rfl (by kernel_rfl) (fun c l s h => hQp c l s h) ?_ hR ?_
                  · exact wantU (j := 9) (b := false) (t := 72) rfl rfl rfl rfl
                  try dsimp only [putL, setL, evL, getL]
                  refine HK_pass 19 rfl (by kernel_rfl) (fun c l s h => hQp c l s h) ?_ hR ?_
                  · exact wantU (j := 9) (b := false) (t := 72) rfl rfl rfl rfl
                  try dsimp only [putL, setL, evL, getL]
                  refine HK_pass 20 rfl (by kernel_rfl) (fun c l s h => hQp c l s h) ?_ hR ?_
                  · exact wantU (j := 9) (b := false) (t := 72) rfl rfl rfl rfl
                  try dsimp only [putL, setL, evL, getL]
                  refine HK_pass 21 rfl (by kernel_rfl) (fun c l s h => hQp c l s h) ?_ hR ?_
                  · exact wantU (j := 9) (b := false) (t := 72) rfl rfl rfl rfl
                  try dsimp only [putL, setL, evL, getL]
                  refine HK_pass 22 rfl (by kernel_rfl) (fun c l s h => hQp c l s h) ?_ hR ?_
                  · exact wantU (j := 9) (b := false) (t := 72) rfl rfl rfl rfl
                  try dsimp only [putL, setL, evL, getL]
                  refine HK_pass 23 rfl (by kernel_rfl) (fun c l s h => hQp c l s h) ?_ hR ?_
                  · exact wantU (j := 9) (b := false) (t := 72) rfl rfl rfl rfl
                  try dsimp only [putL, setL, evL, getL]
                  refine HK_pass 24 rfl (by kernel_rfl) (fun c l s h => hQp c l s h) ?_ hR ?_
                  · exact wantU (j := 9) (b := false) (t := 72) rfl rfl rfl rfl
                  try dsimp only [putL, setL, evL, getL]
                  refine HK_pass 25 rfl (by kernel_rfl) (fun c l s h => hQp c l s h) ?_ hR ?_
                  · exact wantU (j := 9) (b := false) (t := 72) rfl rfl rfl rfl
                  try dsimp only [putL, setL, evL, getL]
                  refine HK_pass 26 rfl (by kernel_rfl) (fun c l s h => hQp c l s h) ?_ hR ?_
                  · exact wantF (j := 4) (b := true) (t := 67) (c := decide (x259 < (p0.length : Int))) rfl rfl rfl rfl hb365
                  try dsimp only [putL, setL, evL, getL]
                  refine HK_readP 27 (v := .bool false) rfl (by kernel_rfl) (fun c l s h => hQp c l s h) rfl (fun s' K hK => ?_) rfl rfl (fun _ => hR) ?_
                  · refine o_pickF rfl hb365 ?_
                    exact hK
                  try dsimp only [putL, setL, evL, getL]
                  refine HK_one 28 (by kernel_rfl) rfl (fun _ => hR) rfl ?_
                  refine o_assign ?_
                  try dsimp only [putL, setL, evL, getL]
                  refine HK_done (fun _ => hR) (by kernel_rfl) ?_
                  exact hK355 _ _ ⟨false, H, rfl, hH⟩
              · rintro l' s373 ⟨x364, H, hl, hH⟩
                generalize getL l' 63 = j63, getL l' 64 = j64, getL l' 65 = j65, getL l' 66 = j66, getL l' 67 = j67, getL l' 68 = j68, getL l' 69 = j69, getL l' 70 = j70, getL l' 71 = j71, getL l' 72 = j72, getL l' 73 = j73, getL l' 74 = j74, getL l' 75 = j75, getL l' 76 = j76, getL l' 77 = j77, getL l' 78 = j78, getL l' 79 = j79, getL l' 80 = j80, getL l' 81 = j81, getL l' 82 = j82, getL l' 83 = j83, getL l' 84 = j84, getL l' 85 = j85, getL l' 86 = j86, getL l' 87 = j87, getL l' 88 = j88, getL l' 89 = j89, getL l' 90 = j90 at hl
                subst hl
                replace H := hG355 _ H
                try dsimp only at H
                rcases Bool.eq_false_or_eq_true x364 with hb374 | hb374
                · replace H := iteT hb374 H
                  refine HT_true (congrArg Value.bool hb374) ?_
                  refine HT_seq_k ?_
                  intro K375 hK375
                  refine HT_region ?_
                  refine HL_cons rfl ?_
                  refine o_move ?_
                  try dsimp only [putL, setL, evL, getL]
                  refine HL_cons rfl ?_
                  refine o_move ?_
                  try dsimp only [putL, setL, evL, getL]
                  refine HL_cons rfl ?_
                  refine o_move ?_
                  try dsimp only [putL, setL, evL, getL]
                  obtain ⟨u376, hu376, H⟩ := headE H
                  obtain ⟨b376, o376, cs376, hr376, hh376, hel376⟩ := Rd.elb HRp0 hu376
                  obtain rfl := hr376
                  refine HL_cons rfl ?_
                  refine hel376 s373 rfl rfl Try.underlying22 tI3 ?_
                  try dsimp only [putL, setL, evL, getL]
                  refine HL_cons rfl ?_
                  refine o_load' rfl Try.underlying3 rfl ((hh376 hH.bs.mono) 0 _ rfl) ?_
                  try dsimp only [putL, setL, evL, getL]
                  obtain ⟨u377, hu377, H⟩ := headE H
                  obtain ⟨F1, hA, hB⟩ := hH.take [1] (by decide)
                  dsimp only [addC, setC, rmC, selC, getC] at hA
                  refine HL_cons rfl ?_
                  refine o_call (args := #[.slice A258 x258.length c258, .int .i64 2, .int .i64 u376]) Try.func144 rfl rfl rfl (spec_l15Add.ok sb s373 F1 A258 c258 x258 2 u376 hA _ hu377) ?_
                  rintro _ s377 ⟨A378, c378, rfl, hD⟩
                  replace hH := hB _ _ _ (Up.refl _ _ _) hD
                  clear hD hA hB
                  dsimp only [addC, setC, rmC, selC, getC] at hH
                  try dsimp only [putL, setL, evL, getL]
                  refine HL_cons rfl ?_
                  refine o_assign ?_
                  try dsimp only [putL, setL, evL, getL]
                  refine HL_nil ?_
                  refine hK375 _ _ ?_
                  refine HT_region ?_
                  refine HL_cons rfl ?_
                  refine o_move ?_
                  try dsimp only [putL, setL, evL, getL]
                  refine HL_cons rfl ?_
                  refine o_bin rfl rfl rfl ?_
                  try dsimp only [putL, setL, evL, getL]
                  refine HL_cons rfl ?_
                  refine o_assign ?_
                  try dsimp only [putL, setL, evL, getL]
                  refine HL_nil ?_
                  exact hK323 _ _ ⟨kf, Nat.lt_succ_self kf, u377, A378, c378, IntKind.i64.wrap (x259 + 1), x260, H, rfl, hH.sel [2, 0] (by decide)⟩
                · replace H := iteF hb374 H
                  refine HT_false (congrArg Value.bool hb374) ?_
                  refine HT_seq_k ?_
                  intro K379 hK379
                  refine HT_region ?_
                  refine HL_cons rfl ?_
                  refine o_move ?_
                  try dsimp only [putL, setL, evL, getL]
                  refine HL_cons rfl ?_
                  refine o_move ?_
                  try dsimp only [putL, setL, evL, getL]
                  refine HL_cons rfl ?_
                  refine o_move ?_
                  try dsimp only [putL, setL, evL, getL]
                  obtain ⟨u380, hu380, H⟩ := headE H
                  obtain ⟨b380, o380, cs380, hr380, hh380, hel380⟩ := Rd.elb HRp1 hu380
                  obtain rfl := hr380
                  refine HL_cons rfl ?_
                  refine hel380 s373 rfl rfl Try.underlying22 tI3 ?_
                  try dsimp only [putL, setL, evL, getL]
                  refine HL_cons rfl ?_
                  refine o_load' rfl Try.underlying3 rfl ((hh380 hH.bs.mono) 0 _ rfl) ?_
                  try dsimp only [putL, setL, evL, getL]
                  obtain ⟨u381, hu381, H⟩ := headE H
                  obtain ⟨F1, hA, hB⟩ := hH.take [1] (by decide)
                  dsimp only [addC, setC, rmC, selC, getC] at hA
                  refine HL_cons rfl ?_
                  refine o_call (args := #[.slice A258 x258.length c258, .int .i64 3, .int .i64 u380]) Try.func144 rfl rfl rfl (spec_l15Add.ok sb s373 F1 A258 c258 x258 3 u380 hA _ hu381) ?_
                  rintro _ s381 ⟨A382, c382, rfl, hD⟩
                  replace hH := hB _ _ _ (Up.refl _ _ _) hD
                  clear hD hA hB
                  dsimp only [addC, setC, rmC, selC, getC] at hH
                  try dsimp only [putL, setL, evL, getL]
                  refine HL_cons rfl ?_
                  refine o_assign ?_
                  try dsimp only [putL, setL, evL, getL]
                  refine HL_nil ?_
                  refine hK379 _ _ ?_
                  refine HT_region ?_
                  refine HL_cons rfl ?_
                  refine o_move ?_
                  try dsimp only [putL, setL, evL, getL]
                  refine HL_cons rfl ?_
                  refine o_bin rfl rfl rfl ?_
                  try dsimp only [putL, setL, evL, getL]
                  refine HL_cons rfl ?_
                  refine o_assign ?_
                  try dsimp only [putL, setL, evL, getL]
                  refine HL_nil ?_
                  exact hK323 _ _ ⟨kf, Nat.lt_succ_self kf, u381, A382, c382, x259, IntKind.i64.wrap (x260 + 1), H, rfl, hH.sel [2, 0] (by decide)⟩
        · replace H := iteF hb337 H
          refine HT_false (congrArg Value.bool hb337) ?_
          refine HT_exit ?_
          exact hK7 _ _ ⟨x258, A258, c258, H, rfl, hH.sel [1] (by decide)⟩
  · rintro l' s383 ⟨x195, A195, c195, H, hl, hH⟩
    generalize getL l' 7 = j7, getL l' 8 = j8, getL l' 12 = j12, getL l' 13 = j13, getL l' 14 = j14, getL l' 15 = j15, getL l' 16 = j16, getL l' 17 = j17, getL l' 18 = j18, getL l' 19 = j19, getL l' 20 = j20, getL l' 21 = j21, getL l' 22 = j22, getL l' 23 = j23, getL l' 24 = j24, getL l' 25 = j25, getL l' 26 = j26, getL l' 27 = j27, getL l' 28 = j28, getL l' 29 = j29, getL l' 30 = j30, getL l' 31 = j31, getL l' 32 = j32, getL l' 33 = j33, getL l' 34 = j34, getL l' 35 = j35, getL l' 36 = j36, getL l' 37 = j37, getL l' 38 = j38, getL l' 39 = j39, getL l' 40 = j40, getL l' 41 = j41, getL l' 42 = j42, getL l' 43 = j43, getL l' 44 = j44, getL l' 45 = j45, getL l' 46 = j46, getL l' 47 = j47, getL l' 48 = j48, getL l' 49 = j49, getL l' 50 = j50, getL l' 51 = j51, getL l' 52 = j52, getL l' 53 = j53, getL l' 54 = j54, getL l' 55 = j55, getL l' 56 = j56, getL l' 57 = j57, getL l' 58 = j58, getL l' 59 = j59, getL l' 60 = j60, getL l' 61 = j61, getL l' 62 = j62, getL l' 63 = j63, getL l' 64 = j64, getL l' 65 = j65, getL l' 66 = j66, getL l' 67 = j67, getL l' 68 = j68, getL l' 69 = j69, getL l' 70 = j70, getL l' 71 = j71, getL l' 72 = j72, getL l' 73 = j73, getL l' 74 = j74, getL l' 75 = j75, getL l' 76 = j76, getL l' 77 = j77, getL l' 78 = j78, getL l' 79 = j79, getL l' 80 = j80, getL l' 81 = j81, getL l' 82 = j82, getL l' 83 = j83, getL l' 84 = j84, getL l' 85 = j85, getL l' 86 = j86, getL l' 87 = j87, getL l' 88 = j88, getL l' 89 = j89, getL l' 90 = j90, getL l' 91 = j91, getL l' 92 = j92, getL l' 93 = j93, getL l' 94 = j94, getL l' 95 = j95, getL l' 96 = j96, getL l' 97 = j97, getL l' 98 = j98 at hl
    subst hl
    replace H := hG7 _ H
    try dsimp only at H
    refine HT_seq_k ?_
    intro K384 hK384
    refine HT_region ?_
    refine HL_cons rfl ?_
    refine o_move ?_
    try dsimp only [putL, setL, evL, getL]
    refine HL_cons rfl ?_
    refine o_assign ?_
    try dsimp only [putL, setL, evL, getL]
    refine HL_nil ?_
    refine hK384 _ _ ?_
    refine HT_ret ?_
    obtain rfl := Option.some.inj (show some _ = some r from H)
    exact hQr _ _ [.slice A195 x195.length c195] ⟨rfl, trivial⟩ ⟨A195, c195, rfl, hH⟩
def spec_DiffOf.f (p0 : List (Int)) (p1 : List (Int)) : Option ((List ((Int) × (List (Int)))) × Bool) := ((spec_l15List.f p0).bind fun u20 => if (!u20) = true then (some true) else ((spec_l15List.f p1).bind fun u22 => some (!u22))).bind fun (o : Bool) => match o with | x19 => (if x19 = true then (some ([], false)) else ((spec_l15Diff.f p0 p1).bind fun u27 => some (u27, true)))
def spec_DiffOf.post (sb s : St) (F0 : Fp) (r : (List ((Int) × (List (Int)))) × Bool) : Value → St → Prop := fun v s' => ∃ (A0 : Option Addr) (c0 : Nat), v = .tuple #[.slice A0 r.1.length c0, .bool r.2] ∧ Hp sb s F0 s' [Ck.ol OS99 99 A0 c0 r.1]
set_option maxRecDepth 100000 in
set_option maxHeartbeats 4000000 in
theorem spec_DiffOf.ok (sb s : St) (F0 : Fp) (A0p : Option Addr) (c0p : Nat) (p0 : List (Int)) (A1p : Option Addr) (c1p : Nat) (p1 : List (Int)) (HRp0 : Rd KI sb A0p c0p p0) (HRp1 : Rd KI sb A1p c1p p1) (hH : Hp sb s F0 s []) (r : (List ((Int) × (List (Int)))) × Bool) (H : spec_DiffOf.f p0 p1 = some r) : GCall Try.prog 35 #[.slice A0p p0.length c0p, .slice A1p p1.length c1p] s (spec_DiffOf.post sb s F0 r) := by
  refine GCall_ofk [.tmp 4, .tmp 5] [.slice A0p p0.length c0p, .slice A1p p1.length c1p, undef, undef, undef, undef, undef, undef, undef, undef, undef, undef, undef, undef, undef, undef, undef] Try.func35 rfl rfl rfl ?_
  intro w Q hQr hQn hQp
  replace H := topE H
  unfold spec_DiffOf.f at H
  refine HT_seq_k ?_
  intro K1 hK1
  refine HT_region ?_
  refine HL_cons rfl ?_
  refine o_assign ?_
  try dsimp only [putL, setL, evL, getL]
  refine HL_cons rfl ?_
  refine o_assign ?_
  try dsimp only [putL, setL, evL, getL]
  refine HL_nil ?_
  refine hK1 _ _ ?_
  refine HT_seq_k ?_
  intro K14 hK14
  refine joinH H fun G15 hG15 H => ?_
  refine HT_joinK (fun l' s' => ∃ (x19 : Bool), G15 x19 = some r ∧ l' = [.slice A0p p0.length c0p, .slice A1p p1.length c1p, undef, undef, .slice none 0 0, .bool false, getL l' 6, getL l' 7, getL l' 8, getL l' 9, getL l' 10, getL l' 11, getL l' 12, .bool x19, undef, undef, undef] ∧ Hp sb s F0 s' []) ?_ ?_
  · intro K15 hK15
    refine HT_region ?_
    refine HL_cons rfl ?_
    refine o_move ?_
    try dsimp only [putL, setL, evL, getL]
    obtain ⟨u20, hu20, H⟩ := headE H
    refine HL_cons rfl ?_
    refine o_call (args := #[.slice A0p p0.length c0p]) Try.func96 rfl rfl rfl (spec_l15List.ok sb s no A0p c0p p0 HRp0 (Hp.own hH.bs) _ hu20) ?_
    rintro _ s20 ⟨rfl, hD⟩
    replace hH := hH.back0 hD (Up.refl _ _ _)
    clear hD
    dsimp only [addC, setC, rmC, selC, getC] at hH
    try dsimp only [putL, setL, evL, getL]
    refine HL_cons rfl ?_
    refine o_not rfl ?_
    try dsimp only [putL, setL, evL, getL]
    refine HL_cons rfl ?_
    refine o_move ?_
    try dsimp only [putL, setL, evL, getL]
    rcases Bool.eq_false_or_eq_true (!u20) with hb21 | hb21
    · replace H := iteT hb21 H
      refine HL_skip ?_ ?_
      · exact wantF (j := 3) (b := false) (t := 9) (c := !u20) rfl rfl rfl rfl hb21
      try dsimp only [putL, setL, evL, getL]
      refine HL_skip ?_ ?_
      · exact wantF (j := 3) (b := false) (t := 9) (c := !u20) rfl rfl rfl rfl hb21
      try dsimp only [putL, setL, evL, getL]
      refine HL_skip ?_ ?_
      · exact wantF (j := 3) (b := false) (t := 9) (c := !u20) rfl rfl rfl rfl hb21
      try dsimp only [putL, setL, evL, getL]
      refine HL_cons rfl ?_
      refine o_pickT rfl hb21 ?_
      try dsimp only [putL, setL, evL, getL]
      refine HL_nil ?_
      exact hK15 _ _ ⟨true, H, rfl, hH⟩
    · replace H := iteF hb21 H
      refine HL_want ?_ ?_
      · exact wantT (j := 3) (b := false) (t := 9) (c := !u20) rfl rfl rfl rfl hb21
      refine o_move ?_
      try dsimp only [putL, setL, evL, getL]
      obtain ⟨u22, hu22, H⟩ := headE H
      refine HL_want ?_ ?_
      · exact wantT (j := 3) (b := false) (t := 9) (c := !u20) rfl rfl rfl rfl hb21
      refine o_call (args := #[.slice A1p p1.length c1p]) Try.func96 rfl rfl rfl (spec_l15List.ok sb s20 no A1p c1p p1 HRp1 (Hp.own hH.bs) _ hu22) ?_
      rintro _ s22 ⟨rfl, hD⟩
      replace hH := hH.back0 hD (Up.refl _ _ _)
      clear hD
      dsimp only [addC, setC, rmC, selC, getC] at hH
      try dsimp only [putL, setL, evL, getL]
      refine HL_want ?_ ?_
      · exact wantT (j := 3) (b := false) (t := 9) (c := !u20) rfl rfl rfl rfl hb21
      refine o_not rfl ?_
      try dsimp only [putL, setL, evL, getL]
      refine HL_cons rfl ?_
      refine o_pickF rfl hb21 ?_
      try dsimp only [putL, setL, evL, getL]
      refine HL_nil ?_
      exact hK15 _ _ ⟨!u22, H, rfl, hH⟩
  · rintro l' s23 ⟨x19, H, hl, hH⟩
    generalize getL l' 6 = j6, getL l' 7 = j7, getL l' 8 = j8, getL l' 9 = j9, getL l' 10 = j10, getL l' 11 = j11, getL l' 12 = j12 at hl
    subst hl
    replace H := hG15 _ H
    try dsimp only at H
    rcases Bool.eq_false_or_eq_true x19 with hb24 | hb24
    · replace H := iteT hb24 H
      refine HT_true (congrArg Value.bool hb24) ?_
      refine HT_seq_k ?_
      intro K25 hK25
      refine HT_region ?_
      refine HL_cons rfl ?_
      refine o_assign ?_
      try dsimp only [putL, setL, evL, getL]
      refine HL_cons rfl ?_
      refine o_assign ?_
      try dsimp only [putL, setL, evL, getL]
      refine HL_nil ?_
      refine hK25 _ _ ?_
      refine HT_ret ?_
      obtain rfl := Option.some.inj (show some _ = some r from H)
      exact hQr _ _ [.slice none 0 0, .bool false] ⟨rfl, rfl, trivial⟩ ⟨none, 0, rfl, (hH.nil (K := KS99) OS99 99)⟩
    · replace H := iteF hb24 H
      refine HT_false (congrArg Value.bool hb24) ?_
      refine HT_skip ?_
      refine hK14 _ _ ?_
      refine HT_seq_k ?_
      intro K26 hK26
      refine HT_region ?_
      refine HL_cons rfl ?_
      refine o_move ?_
      try dsimp only [putL, setL, evL, getL]
      refine HL_cons rfl ?_
      refine o_move ?_
      try dsimp only [putL, setL, evL, getL]
      obtain ⟨u27, hu27, H⟩ := headE H
      refine HL_cons rfl ?_
      refine o_call (args := #[.slice A0p p0.length c0p, .slice A1p p1.length c1p]) Try.func97 rfl rfl rfl (spec_l15Diff.ok sb s23 no A0p c0p p0 A1p c1p p1 HRp0 HRp1 (Hp.own hH.bs) _ hu27) ?_
      rintro _ s27 ⟨A28, c28, rfl, hD⟩
      replace hH := hH.back0 hD (Up.refl _ _ _)
      clear hD
      dsimp only [addC, setC, rmC, selC, getC] at hH
      try dsimp only [putL, setL, evL, getL]
      refine HL_cons rfl ?_
      refine o_assign ?_
      try dsimp only [putL, setL, evL, getL]
      refine HL_cons rfl ?_
      refine o_assign ?_
      try dsimp only [putL, setL, evL, getL]
      refine HL_nil ?_
      refine hK26 _ _ ?_
      refine HT_ret ?_
      obtain rfl := Option.some.inj (show some _ = some r from H)
      exact hQr _ _ [.slice A28 u27.length c28, .bool true] ⟨rfl, rfl, trivial⟩ ⟨A28, c28, rfl, hH⟩
def impl_inRange.f (p0 : Int) (p1 : Int) (p2 : Int) : Option Bool := if (decide (p1 ≤ p0)) = true then (some (decide (p0 ≤ p2))) else (some false)
def impl_inRange.post (sb s : St) (F0 : Fp) (r : Bool) : Value → St → Prop := fun v s' => v = .bool r ∧ Hp sb s F0 s' []
set_option maxRecDepth 100000 in
set_option maxHeartbeats 4000000 in
theorem impl_inRange.ok (sb s : St) (F0 : Fp) (p0 : Int) (p1 : Int) (p2 : Int) (hH : Hp sb s F0 s []) (r : Bool) (H : impl_inRange.f p0 p1 p2 = some r) : GCall Try.prog 86 #[.int .i64 p0, .int .i64 p1, .int .i64 p2] s (impl_inRange.post sb s F0 r) := by
  refine GCall_ofk [.tmp 6] [.int .i64 p0, .int .i64 p1, .int .i64 p2, undef, undef, undef, undef, undef, undef, undef, undef, undef, undef, undef, undef] Try.func86 rfl rfl rfl ?_
  intro w Q hQr hQn hQp
  replace H := topE H
  unfold impl_inRange.f at H
  refine HT_seq_k ?_
  intro K1 hK1
  refine HT_region ?_
  refine HL_cons rfl ?_
  refine o_assign ?_
  try dsimp only [putL, setL, evL, getL]
  refine HL_nil ?_
  refine hK1 _ _ ?_
  refine HT_seq_k ?_
  intro K2 hK2
  refine HT_region ?_
  refine HL_cons rfl ?_
  refine o_move ?_
  try dsimp only [putL, setL, evL, getL]
  refine HL_cons rfl ?_
  refine o_move ?_
  try dsimp only [putL, setL, evL, getL]
  refine HL_cons rfl ?_
  refine o_bin rfl rfl rfl ?_
  try dsimp only [putL, setL, evL, getL]
  refine HL_cons rfl ?_
  refine o_move ?_
  try dsimp only [putL, setL, evL, getL]
  rcases Bool.eq_false_or_eq_true (decide (p1 ≤ p0)) with hb3 | hb3
  · replace H := iteT hb3 H
    refine HL_want ?_ ?_
    · exact wantT (j := 3) (b := true) (t := 10) (c := decide (p1 ≤ p0)) rfl rfl rfl rfl hb3
    refine o_move ?_
    try dsimp only [putL, setL, evL, getL]
    refine HL_want ?_ ?_
    · exact wantT (j := 3) (b := true) (t := 10) (c := decide (p1 ≤ p0)) rfl rfl rfl rfl hb3
    refine o_move ?_
    try dsimp only [putL, setL, evL, getL]
    refine HL_want ?_ ?_
    · exact wantT (j := 3) (b := true) (t := 10) (c := decide (p1 ≤ p0)) rfl rfl rfl rfl hb3
    refine o_bin rfl rfl rfl ?_
    try dsimp only [putL, setL, evL, getL]
    refine HL_cons rfl ?_
    refine o_pickT rfl hb3 ?_
    try dsimp only [putL, setL, evL, getL]
    refine HL_cons rfl ?_
    refine o_assign ?_
    try dsimp only [putL, setL, evL, getL]
    refine HL_nil ?_
    refine hK2 _ _ ?_
    refine HT_ret ?_
    obtain rfl := Option.some.inj (show some _ = some r from H)
    exact hQr _ _ [.bool (decide (p0 ≤ p2))] ⟨rfl, trivial⟩ ⟨rfl, hH⟩
  · replace H := iteF hb3 H
    refine HL_skip ?_ ?_
    · exact wantF (j := 3) (b := true) (t := 10) (c := decide (p1 ≤ p0)) rfl rfl rfl rfl hb3
    try dsimp only [putL, setL, evL, getL]
    refine HL_skip ?_ ?_
    · exact wantF (j := 3) (b := true) (t := 10) (c := decide (p1 ≤ p0)) rfl rfl rfl rfl hb3
    try dsimp only [putL, setL, evL, getL]
    refine HL_skip ?_ ?_
    · exact wantF (j := 3) (b := true) (t := 10) (c := decide (p1 ≤ p0)) rfl rfl rfl rfl hb3
    try dsimp only [putL, setL, evL, getL]
    refine HL_cons rfl ?_
    refine o_pickF rfl hb3 ?_
    try dsimp only [putL, setL, evL, getL]
    refine HL_cons rfl ?_
    refine o_assign ?_
    try dsimp only [putL, setL, evL, getL]
    refine HL_nil ?_
    refine hK2 _ _ ?_
    refine HT_ret ?_
    obtain rfl := Option.some.inj (show some _ = some r from H)
    exact hQr _ _ [.bool false] ⟨rfl, trivial⟩ ⟨rfl, hH⟩
def impl_GoodRune.f (p0 : Int) : Option Bool := (impl_inRange.f p0 0 1114111).bind fun u3 => if u3 = true then ((impl_inRange.f p0 55296 57343).bind fun u5 => some (!u5)) else (some false)
def impl_GoodRune.post (sb s : St) (F0 : Fp) (r : Bool) : Value → St → Prop := fun v s' => v = .bool r ∧ Hp sb s F0 s' []
set_option maxRecDepth 100000 in
set_option maxHeartbeats 4000000 in
theorem impl_GoodRune.ok (sb s : St) (F0 : Fp) (p0 : Int) (hH : Hp sb s F0 s []) (r : Bool) (H : impl_GoodRune.f p0 = some r) : GCall Try.prog 147 #[.int .i64 p0] s (impl_GoodRune.post sb s F0 r) := by
  refine GCall_ofk [.tmp 2] [.int .i64 p0, undef, undef, undef, undef, undef, undef, undef, undef, undef] Try.func147 rfl rfl rfl ?_
  intro w Q hQr hQn hQp
  replace H := topE H
  unfold impl_GoodRune.f at H
  refine HT_seq_k ?_
  intro K1 hK1
  refine HT_region ?_
  refine HL_cons rfl ?_
  refine o_assign ?_
  try dsimp only [putL, setL, evL, getL]
  refine HL_nil ?_
  refine hK1 _ _ ?_
  refine HT_seq_k ?_
  intro K2 hK2
  refine HT_region ?_
  refine HL_cons rfl ?_
  refine o_move ?_
  try dsimp only [putL, setL, evL, getL]
  obtain ⟨u3, hu3, H⟩ := headE H
  refine HL_cons rfl ?_
  refine o_call (args := #[.int .i64 p0, .int .i64 0, .int .i64 1114111]) Try.func86 rfl rfl rfl (impl_inRange.ok sb s no p0 0 1114111 (Hp.own hH.bs) _ hu3) ?_
  rintro _ s3 ⟨rfl, hD⟩
  replace hH := hH.back0 hD (Up.refl _ _ _)
  clear hD
  dsimp only [addC, setC, rmC, selC, getC] at hH
  try dsimp only [putL, setL, evL, getL]
  refine HL_cons rfl ?_
  refine o_move ?_
  try dsimp only [putL, setL, evL, getL]
  rcases Bool.eq_false_or_eq_true u3 with hb4 | hb4
  · replace H := iteT hb4 H
    refine HL_want ?_ ?_
    · exact wantT (j := 2) (b := true) (t := 5) (c := u3) rfl rfl rfl rfl hb4
    refine o_move ?_
    try dsimp only [putL, setL, evL, getL]
    obtain ⟨u5, hu5, H⟩ := headE H
    refine HL_want ?_ ?_
    · exact wantT (j := 2) (b := true) (t := 5) (c := u3) rfl rfl rfl rfl hb4
    refine o_call (args := #[.int .i64 p0, .int .i64 55296, .int .i64 57343]) Try.func86 rfl rfl rfl (impl_inRange.ok sb s3 no p0 55296 57343 (Hp.own hH.bs) _ hu5) ?_
    rintro _ s5 ⟨rfl, hD⟩
    replace hH := hH.back0 hD (Up.refl _ _ _)
    clear hD
    dsimp only [addC, setC, rmC, selC, getC] at hH
    try dsimp only [putL, setL, evL, getL]
    refine HL_want ?_ ?_
    · exact wantT (j := 2) (b := true) (t := 5) (c := u3) rfl rfl rfl rfl hb4
    refine o_not rfl ?_
    try dsimp only [putL, setL, evL, getL]
    refine HL_cons rfl ?_
    refine o_pickT rfl hb4 ?_
    try dsimp only [putL, setL, evL, getL]
    refine HL_cons rfl ?_
    refine o_assign ?_
    try dsimp only [putL, setL, evL, getL]
    refine HL_nil ?_
    refine hK2 _ _ ?_
    refine HT_ret ?_
    obtain rfl := Option.some.inj (show some _ = some r from H)
    exact hQr _ _ [.bool (!u5)] ⟨rfl, trivial⟩ ⟨rfl, hH⟩
  · replace H := iteF hb4 H
    refine HL_skip ?_ ?_
    · exact wantF (j := 2) (b := true) (t := 5) (c := u3) rfl rfl rfl rfl hb4
    try dsimp only [putL, setL, evL, getL]
    refine HL_skip ?_ ?_
    · exact wantF (j := 2) (b := true) (t := 5) (c := u3) rfl rfl rfl rfl hb4
    try dsimp only [putL, setL, evL, getL]
    refine HL_skip ?_ ?_
    · exact wantF (j := 2) (b := true) (t := 5) (c := u3) rfl rfl rfl rfl hb4
    try dsimp only [putL, setL, evL, getL]
    refine HL_cons rfl ?_
    refine o_pickF rfl hb4 ?_
    try dsimp only [putL, setL, evL, getL]
    refine HL_cons rfl ?_
    refine o_assign ?_
    try dsimp only [putL, setL, evL, getL]
    refine HL_nil ?_
    refine hK2 _ _ ?_
    refine HT_ret ?_
    obtain rfl := Option.some.inj (show some _ = some r from H)
    exact hQr _ _ [.bool false] ⟨rfl, trivial⟩ ⟨rfl, hH⟩
def impl_areRunes_1.f (p0 : Int) : Option Bool := (impl_GoodRune.f p0).bind fun u3 => some (!u3)
def impl_areRunes_1.post (sb s : St) (F0 : Fp) (r : Bool) : Value → St → Prop := fun v s' => v = .bool r ∧ Hp sb s F0 s' []
set_option maxRecDepth 100000 in
set_option maxHeartbeats 4000000 in
theorem impl_areRunes_1.ok (sb s : St) (F0 : Fp) (p0 : Int) (hH : Hp sb s F0 s []) (r : Bool) (H : impl_areRunes_1.f p0 = some r) : GCall Try.prog 153 #[.int .i64 p0] s (impl_areRunes_1.post sb s F0 r) := by
  refine GCall_ofk [.tmp 2] [.int .i64 p0, undef, undef, undef, undef, undef] Try.func153 rfl rfl rfl ?_
  intro w Q hQr hQn hQp
  replace H := topE H
  unfold impl_areRunes_1.f at H
  refine HT_seq_k ?_
  intro K1 hK1
  refine HT_region ?_
  refine HL_cons rfl ?_
  refine o_assign ?_
  try dsimp only [putL, setL, evL, getL]
  refine HL_nil ?_
  refine hK1 _ _ ?_
  refine HT_seq_k ?_
  intro K2 hK2
  refine HT_region ?_
  refine HL_cons rfl ?_
  refine o_move ?_
  try dsimp only [putL, setL, evL, getL]
  obtain ⟨u3, hu3, H⟩ := headE H
  refine HL_cons rfl ?_
  refine o_call (args := #[.int .i64 p0]) Try.func147 rfl rfl rfl (impl_GoodRune.ok sb s no p0 (Hp.own hH.bs) _ hu3) ?_
  rintro _ s3 ⟨rfl, hD⟩
  replace hH := hH.back0 hD (Up.refl _ _ _)
  clear hD
  dsimp only [addC, setC, rmC, selC, getC] at hH
  try dsimp only [putL, setL, evL, getL]
  refine HL_cons rfl ?_
  refine o_not rfl ?_
  try dsimp only [putL, setL, evL, getL]
  refine HL_cons rfl ?_
  refine o_assign ?_
  try dsimp only [putL, setL, evL, getL]
  refine HL_nil ?_
  refine hK2 _ _ ?_
  refine HT_ret ?_
  obtain rfl := Option.some.inj (show some _ = some r from H)
  exact hQr _ _ [.bool (!u3)] ⟨rfl, trivial⟩ ⟨rfl, hH⟩
def slices_IndexFunc_int_int_impl_areRunes_1.l1 (p0 : List (Int)) : Nat → Int → Option (Lo Unit Int)
  | 0, _ => none
  | kf + 1, x48 => if (decide (x48 < (p0.length : Int))) = true then ((rd? p0 x48).bind fun u67 => (impl_areRunes_1.f u67).bind fun u68 => if u68 = true then ((some x48).bind fun z => some (Lo.ret z)) else (slices_IndexFunc_int_int_impl_areRunes_1.l1 p0 kf (IntKind.i64.wrap (x48 + 1)))) else (some (Lo.go ()))
def slices_IndexFunc_int_int_impl_areRunes_1.f (p0 : List (Int)) : Option Int := (slices_IndexFunc_int_int_impl_areRunes_1.l1 p0 ((((p0.length : Int)) - (0)).toNat + 2) 0).bind fun (o : Lo Unit Int) => match o with | .go () => (some (-1)) | .ret z => some z
def slices_IndexFunc_int_int_impl_areRunes_1.post (sb s : St) (F0 : Fp) (r : Int) : Value → St → Prop := fun v s' => v = .int .i64 r ∧ Hp sb s F0 s' []
set_option maxRecDepth 100000 in
set_option maxHeartbeats 4000000 in
theorem slices_IndexFunc_int_int_impl_areRunes_1.ok (sb s : St) (F0 : Fp) (A0p : Option Addr) (c0p : Nat) (p0 : List (Int)) (HRp0 : Rd KI sb A0p c0p p0) (hH : Hp sb s F0 s []) (r : Int) (H : slices_IndexFunc_int_int_impl_areRunes_1.f p0 = some r) : GCall Try.prog 151 #[.slice A0p p0.length c0p, .func (.func 153) #[] #[]] s (slices_IndexFunc_int_int_impl_areRunes_1.post sb s F0 r) := by
  refine GCall_ofk [.tmp 4] [.slice A0p p0.length c0p, .func (.func 153) #[] #[], undef, undef, undef, undef, undef, undef, undef, undef, undef, undef, undef, undef, undef, undef, undef, undef, undef] Try.func151 rfl rfl rfl ?_
  intro w Q hQr hQn hQp
  replace H := topE H
  unfold slices_IndexFunc_int_int_impl_areRunes_1.f at H
  refine HT_seq_k ?_
  intro K1 hK1
  refine HT_region ?_
  refine HL_cons rfl ?_
  refine o_assign ?_
  try dsimp only [putL, setL, evL, getL]
  refine HL_nil ?_
  refine hK1 _ _ ?_
  refine HT_seq_k ?_
  intro K2 hK2
  refine HT_seq_k ?_
  intro K3 hK3
  refine HT_region ?_
  refine HL_cons rfl ?_
  refine o_move ?_
  try dsimp only [putL, setL, evL, getL]
  refine HL_cons rfl ?_
  refine o_len rfl Try.underlying22 ?_
  try dsimp only [putL, setL, evL, getL]
  refine HL_cons rfl ?_
  refine o_move ?_
  try dsimp only [putL, setL, evL, getL]
  refine HL_nil ?_
  refine hK3 _ _ ?_
  refine joinH H fun G4 hG4 H => ?_
  refine HT_toK (fun l' s' => G4 (.go ()) = some r ∧ l' = [.slice A0p p0.length c0p, .func (.func 153) #[] #[], undef, undef, getL l' 4, getL l' 5, .slice A0p p0.length c0p, .int .i64 (p0.length : Int), getL l' 8, getL l' 9, getL l' 10, getL l' 11, getL l' 12, getL l' 13, getL l' 14, getL l' 15, getL l' 16, getL l' 17, getL l' 18] ∧ Hp sb s F0 s' []) ?_ ?_
  · intro K4 hK4
    refine HT_block ?_
    refine HT_loopK (fun kf l' s' => ∃ (x48 : Int), (slices_IndexFunc_int_int_impl_areRunes_1.l1 p0 kf x48).bind G4 = some r ∧ l' = [.slice A0p p0.length c0p, .func (.func 153) #[] #[], undef, undef, getL l' 4, getL l' 5, .slice A0p p0.length c0p, .int .i64 (p0.length : Int), .int .i64 x48, getL l' 9, getL l' 10, getL l' 11, getL l' 12, getL l' 13, getL l' 14, getL l' 15, getL l' 16, getL l' 17, getL l' 18] ∧ Hp sb s F0 s' []) ((((p0.length : Int)) - (0)).toNat + 2) ⟨0, H, rfl, hH⟩ ?_
    rintro kf l' s60 ⟨x48, H, hl, hH⟩ K60 hK60
    generalize getL l' 4 = j4, getL l' 5 = j5, getL l' 9 = j9, getL l' 10 = j10, getL l' 11 = j11, getL l' 12 = j12, getL l' 13 = j13, getL l' 14 = j14, getL l' 15 = j15, getL l' 16 = j16, getL l' 17 = j17, getL l' 18 = j18 at hl
    subst hl
    cases kf with
    | zero => simp [slices_IndexFunc_int_int_impl_areRunes_1.l1] at H
    | succ kf =>
      rw [slices_IndexFunc_int_int_impl_areRunes_1.l1] at H
      refine HT_seq_k ?_
      intro K61 hK61
      refine HT_region ?_
      refine HL_cons rfl ?_
      refine o_bin rfl rfl rfl ?_
      try dsimp only [putL, setL, evL, getL]
      refine HL_nil ?_
      refine hK61 _ _ ?_
      refine HT_seq_k ?_
      intro K62 hK62
      rcases Bool.eq_false_or_eq_true (decide (x48 < (p0.length : Int))) with hb63 | hb63
      · replace H := iteT hb63 H
        refine HT_true (congrArg Value.bool hb63) ?_
        refine HT_skip ?_
        refine hK62 _ _ ?_
        refine HT_seq_k ?_
        intro K64 hK64
        refine HT_block ?_
        refine HT_seq_k ?_
        intro K65 hK65
        refine HT_region ?_
        refine HL_cons rfl ?_
        refine o_move ?_
        try dsimp only [putL, setL, evL, getL]
        refine HL_cons rfl ?_
        refine o_assign ?_
        try dsimp only [putL, setL, evL, getL]
        refine HL_nil ?_
        refine hK65 _ _ ?_
        refine HT_seq_k ?_
        intro K66 hK66
        refine HT_region ?_
        refine HL_cons rfl ?_
        refine o_move ?_
        try dsimp only [putL, setL, evL, getL]
        refine HL_cons rfl ?_
        refine o_move ?_
        try dsimp only [putL, setL, evL, getL]
        refine HL_cons rfl ?_
        refine o_move ?_
        try dsimp only [putL, setL, evL, getL]
        obtain ⟨u67, hu67, H⟩ := headE H
        obtain ⟨b67, o67, cs67, hr67, hh67, hel67⟩ := Rd.elb HRp0 hu67
        obtain rfl := hr67
        refine HL_cons rfl ?_
        refine hel67 s60 rfl rfl Try.underlying22 tI3 ?_
        try dsimp only [putL, setL, evL, getL]
        refine HL_cons rfl ?_
        refine o_load' rfl Try.underlying3 rfl ((hh67 hH.bs.mono) 0 _ rfl) ?_
        try dsimp only [putL, setL, evL, getL]
        obtain ⟨u68, hu68, H⟩ := headE H
        refine HL_cons rfl ?_
        refine o_callv (first := #[]) (cap := #[]) (args := #[.int .i64 u67]) rfl Try.func153 rfl rfl [.int .i64 u67] rfl (by simp) (impl_areRunes_1.ok sb s60 no u67 (Hp.own hH.bs) _ hu68) ?_
        rintro _ s68 ⟨rfl, hD⟩
        replace hH := hH.back0 hD (Up.refl _ _ _)
        clear hD
        dsimp only [addC, setC, rmC, selC, getC] at hH
        try dsimp only [putL, setL, evL, getL]
        refine HL_nil ?_
        refine hK66 _ _ ?_
        rcases Bool.eq_false_or_eq_true u68 with hb69 | hb69
        · replace H := iteT hb69 H
          refine HT_true (congrArg Value.bool hb69) ?_
          refine HT_seq_k ?_
          intro K70 hK70
          refine HT_region ?_
          refine HL_cons rfl ?_
          refine o_move ?_
          try dsimp only [putL, setL, evL, getL]
          refine HL_cons rfl ?_
          refine o_assign ?_
          try dsimp only [putL, setL, evL, getL]
          refine HL_nil ?_
          refine hK70 _ _ ?_
          refine HT_ret ?_
          replace H := escH (fun z hz => hG4 _ hz) H
          obtain rfl := Option.some.inj (show some _ = some r from H)
          exact hQr _ _ [.int .i64 x48] ⟨rfl, trivial⟩ ⟨rfl, hH⟩
        · replace H := iteF hb69 H
          refine HT_false (congrArg Value.bool hb69) ?_
          refine HT_skip ?_
          refine hK64 _ _ ?_
          refine HT_region ?_
          refine HL_cons rfl ?_
          refine o_bin rfl rfl rfl ?_
          try dsimp only [putL, setL, evL, getL]
          refine HL_cons rfl ?_
          refine o_move ?_
          try dsimp only [putL, setL, evL, getL]
          refine HL_nil ?_
          exact hK60 _ _ ⟨kf, Nat.lt_succ_self kf, IntKind.i64.wrap (x48 + 1), H, rfl, hH⟩
      · replace H := iteF hb63 H
        refine HT_false (congrArg Value.bool hb63) ?_
        refine HT_exit ?_
        exact hK4 _ _ ⟨H, rfl, hH⟩
  · rintro l' s71 ⟨H, hl, hH⟩
    generalize getL l' 4 = j4, getL l' 5 = j5, getL l' 8 = j8, getL l' 9 = j9, getL l' 10 = j10, getL l' 11 = j11, getL l' 12 = j12, getL l' 13 = j13, getL l' 14 = j14, getL l' 15 = j15, getL l' 16 = j16, getL l' 17 = j17, getL l' 18 = j18 at hl
    subst hl
    replace H := hG4 _ H
    try dsimp only at H
    refine hK2 _ _ ?_
    refine HT_seq_k ?_
    intro K72 hK72
    refine HT_region ?_
    refine HL_cons rfl ?_
    refine o_assign ?_
    try dsimp only [putL, setL, evL, getL]
    refine HL_nil ?_
    refine hK72 _ _ ?_
    refine HT_ret ?_
    obtain rfl := Option.some.inj (show some _ = some r from H)
    exact hQr _ _ [.int .i64 (-1)] ⟨rfl, trivial⟩ ⟨rfl, hH⟩
def slices_ContainsFunc_int_int_impl_areRunes_1.f (p0 : List (Int)) : Option Bool := (slices_IndexFunc_int_int_impl_areRunes_1.f p0).bind fun u3 => some (decide (u3 ≥ 0))
def slices_ContainsFunc_int_int_impl_areRunes_1.post (sb s : St) (F0 : Fp) (r : Bool) : Value → St → Prop := fun v s' => v = .bool r ∧ Hp sb s F0 s' []
set_option maxRecDepth 100000 in
set_option maxHeartbeats 4000000 in
theorem slices_ContainsFunc_int_int_impl_areRunes_1.ok (sb s : St) (F0 : Fp) (A0p : Option Addr) (c0p : Nat) (p0 : List (Int)) (HRp0 : Rd KI sb A0p c0p p0) (hH : Hp sb s F0 s []) (r : Bool) (H : slices_ContainsFunc_int_int_impl_areRunes_1.f p0 = some r) : GCall Try.prog 110 #[.slice A0p p0.length c0p, .func (.func 153) #[] #[]] s (slices_ContainsFunc_int_int_impl_areRunes_1.post sb s F0 r) := by
  refine GCall_ofk [.tmp 4] [.slice A0p p0.length c0p, .func (.func 153) #[] #[], undef, undef, undef, undef, undef, undef, undef] Try.func110 rfl rfl rfl ?_
  intro w Q hQr hQn hQp
  replace H := topE H
  unfold slices_ContainsFunc_int_int_impl_areRunes_1.f at H
  refine HT_seq_k ?_
  intro K1 hK1
  refine HT_region ?_
  refine HL_cons rfl ?_
  refine o_assign ?_
  try dsimp only [putL, setL, evL, getL]
  refine HL_nil ?_
  refine hK1 _ _ ?_
  refine HT_seq_k ?_
  intro K2 hK2
  refine HT_region ?_
  refine HL_cons rfl ?_
  refine o_move ?_
  try dsimp only [putL, setL, evL, getL]
  refine HL_cons rfl ?_
  refine o_move ?_
  try dsimp only [putL, setL, evL, getL]
  obtain ⟨u3, hu3, H⟩ := headE H
  refine HL_cons rfl ?_
  refine o_call (args := #[.slice A0p p0.length c0p, .func (.func 153) #[] #[]]) Try.func151 rfl rfl rfl (slices_IndexFunc_int_int_impl_areRunes_1.ok sb s no A0p c0p p0 HRp0 (Hp.own hH.bs) _ hu3) ?_
  rintro _ s3 ⟨rfl, hD⟩
  replace hH := hH.back0 hD (Up.refl _ _ _)
  clear hD
  dsimp only [addC, setC, rmC, selC, getC] at hH
  try dsimp only [putL, setL, evL, getL]
  refine HL_cons rfl ?_
  refine o_bin rfl rfl rfl ?_
  try dsimp only [putL, setL, evL, getL]
  refine HL_cons rfl ?_
  refine o_assign ?_
  try dsimp only [putL, setL, evL, getL]
  refine HL_nil ?_
  refine hK2 _ _ ?_
  refine HT_ret ?_
  obtain rfl := Option.some.inj (show some _ = some r from H)
  exact hQr _ _ [.bool (decide (u3 ≥ 0))] ⟨rfl, trivial⟩ ⟨rfl, hH⟩
end Go.Proofs.Ytopecknfnhocpaa
