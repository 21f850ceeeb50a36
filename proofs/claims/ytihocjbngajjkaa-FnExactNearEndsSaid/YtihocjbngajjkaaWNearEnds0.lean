/- The functions that the law reaches, as plain functions, each with its contract: printed by a program of the prover's. No conditions: lemmas. -/
import Derived.Test.YtihocjbngajjkaaProg
import Derived.Test.YtihocjbngajjkaaGG
set_option linter.unusedVariables false
set_option linter.unusedSimpArgs false
namespace Go.Proofs.Ytihocjbngajjkaa
open Go Go.Proofs.GL
theorem tI3 : TI Try.prog 3 (.int .i64 0) 1 8 := by unfold TI; kernel_rfl
theorem tI22 : TI Try.prog 22 (.slice none 0 0) 1 24 := by unfold TI; kernel_rfl
theorem hMix : Try.prog.follows .mixedOrders = true := by kernel_rfl
def laws_toIntS.l1 (p0 : List (Int)) : Nat → (List (Int)) → Int → Option (List (Int))
  | 0, _, _ => none
  | kf + 1, x41, x42 => if (decide (x42 < (p0.length : Int))) = true then ((rd? p0 x42).bind fun u57 => (rd? x41 x42).bind fun u58 => (st? x41 x42 u57).bind fun x59 => laws_toIntS.l1 p0 kf x59 (IntKind.i64.wrap (x42 + 1))) else (some x41)
def laws_toIntS.f (p0 : List (Int)) : Option (List (Int)) := (mk? 17592186044416 0 (p0.length : Int)).bind fun x3 => (laws_toIntS.l1 p0 ((((p0.length : Int)) - (0)).toNat + 2) x3 0).bind fun (o : (List (Int))) => match o with | x33 => (some x33)
def laws_toIntS.post (sb s : St) (F0 : Fp) (r : (List (Int))) : Value → St → Prop := fun v s' => ∃ (A0 : Option Addr) (c0 : Nat), v = .slice A0 r.length c0 ∧ Hp sb s F0 s' [Ck.ol OI 3 A0 c0 r]
set_option maxRecDepth 100000 in
set_option maxHeartbeats 4000000 in
theorem laws_toIntS.ok (sb s : St) (F0 : Fp) (A0p : Option Addr) (c0p : Nat) (p0 : List (Int)) (HRp0 : Rd KI sb A0p c0p p0) (hH : Hp sb s F0 s []) (r : (List (Int))) (H : laws_toIntS.f p0 = some r) : GCall Try.prog 15 #[.slice A0p p0.length c0p] s (laws_toIntS.post sb s F0 r) := by
  refine GCall_ofk [.tmp 2] [.slice A0p p0.length c0p, undef, undef, undef, undef, undef, undef, undef, undef, undef, undef, undef, undef, undef, undef, undef, undef, undef, undef, undef, undef, undef] Try.func15 rfl rfl rfl ?_
  intro w Q hQr hQn hQp
  replace H := topE H
  unfold laws_toIntS.f at H
  refine HT_seq_k ?_
  intro K1 hK1
  refine HT_region ?_
  refine HL_cons rfl ?_
  refine o_assign ?_
  try dsimp only [putL, setL, evL, getL]
  refine HL_nil ?_
  refine hK1 _ _ ?_
  refine HT_seq_k ?_
  intro K2 hK2
  refine HT_region ?_
  refine HL_cons rfl ?_
  refine o_move ?_
  try dsimp only [putL, setL, evL, getL]
  refine HL_cons rfl ?_
  refine o_len rfl Try.underlying22 ?_
  try dsimp only [putL, setL, evL, getL]
  obtain ⟨x3, hx3, H⟩ := headE H
  refine HL_cons rfl ?_
  refine o_makeH (K := KI) (O := OI) (x0 := 0) hH rfl Try.underlying22 tI3 rfl (by decide) (by decide) (by decide) (Own0.fl fun _ => rfl) hx3 ?_
  intro A3 c3 s3 hH' hG
  replace hH : Hp sb s F0 s3 [Ck.ol OI 3 A3 c3 x3] := hH'
  clear hH' hG
  try dsimp only [putL, setL, evL, getL]
  refine HL_cons rfl ?_
  refine o_assign ?_
  try dsimp only [putL, setL, evL, getL]
  refine HL_nil ?_
  refine hK2 _ _ ?_
  refine HT_seq_k ?_
  intro K4 hK4
  refine HT_seq_k ?_
  intro K5 hK5
  refine HT_region ?_
  refine HL_cons rfl ?_
  refine o_assign ?_
  try dsimp only [putL, setL, evL, getL]
  refine HL_nil ?_
  refine hK5 _ _ ?_
  refine joinH H fun G6 hG6 H => ?_
  refine HT_toK (fun l' s' => ∃ (x33 : List (Int)), G6 x33 = some r ∧ l' = [.slice A0p p0.length c0p, undef, .slice none 0 0, .slice A3 x3.length c3, getL l' 4, .slice A0p p0.length c0p, .int .i64 (p0.length : Int), .slice A3 x3.length c3, getL l' 8, getL l' 9, getL l' 10, getL l' 11, getL l' 12, getL l' 13, getL l' 14, getL l' 15, getL l' 16, getL l' 17, getL l' 18, getL l' 19, getL l' 20, undef] ∧ Hp sb s F0 s' [Ck.ol OI 3 A3 c3 x33] ∧ x33.length = x3.length) ?_ ?_
  · intro K6 hK6
    refine HT_block ?_
    refine HT_loopK (fun kf l' s' => ∃ (x41 : List (Int)) (x42 : Int), (laws_toIntS.l1 p0 kf x41 x42).bind G6 = some r ∧ l' = [.slice A0p p0.length c0p, undef, .slice none 0 0, .slice A3 x3.length c3, .int .i64 x42, .slice A0p p0.length c0p, .int .i64 (p0.length : Int), .slice A3 x3.length c3, getL l' 8, getL l' 9, getL l' 10, getL l' 11, getL l' 12, getL l' 13, getL l' 14, getL l' 15, getL l' 16, getL l' 17, getL l' 18, getL l' 19, getL l' 20, undef] ∧ Hp sb s F0 s' [Ck.ol OI 3 A3 c3 x41] ∧ x41.length = x3.length) ((((p0.length : Int)) - (0)).toNat + 2) ⟨x3, 0, H, rfl, hH, rfl⟩ ?_
    rintro kf l' s52 ⟨x41, x42, H, hl, hH, hl41⟩ K52 hK52
    generalize getL l' 8 = j8, getL l' 9 = j9, getL l' 10 = j10, getL l' 11 = j11, getL l' 12 = j12, getL l' 13 = j13, getL l' 14 = j14, getL l' 15 = j15, getL l' 16 = j16, getL l' 17 = j17, getL l' 18 = j18, getL l' 19 = j19, getL l' 20 = j20 at hl
    subst hl
    cases kf with
    | zero => simp [laws_toIntS.l1] at H
    | succ kf =>
      rw [laws_toIntS.l1] at H
      refine HT_seq_k ?_
      intro K53 hK53
      refine HT_seq_k ?_
      intro K54 hK54
      refine HT_region ?_
      refine HL_cons rfl ?_
      refine o_move ?_
      try dsimp only [putL, setL, evL, getL]
      refine HL_cons rfl ?_
      refine o_move ?_
      try dsimp only [putL, setL, evL, getL]
      refine HL_cons rfl ?_
      refine o_len rfl Try.underlying22 ?_
      try dsimp only [putL, setL, evL, getL]
      refine HL_cons rfl ?_
      refine o_bin rfl rfl rfl ?_
      try dsimp only [putL, setL, evL, getL]
      refine HL_nil ?_
      refine hK54 _ _ ?_
      rcases Bool.eq_false_or_eq_true (decide (x42 < (p0.length : Int))) with hb55 | hb55
      · replace H := iteT hb55 H
        refine HT_true (congrArg Value.bool hb55) ?_
        refine HT_skip ?_
        refine hK53 _ _ ?_
        refine HT_seq_k ?_
        intro K56 hK56
        refine HT_block ?_
        refine HT_region ?_
        refine HL_cons rfl ?_
        refine o_move ?_
        try dsimp only [putL, setL, evL, getL]
        refine HL_cons rfl ?_
        refine o_move ?_
        try dsimp only [putL, setL, evL, getL]
        refine HL_cons rfl ?_
        refine o_move ?_
        try dsimp only [putL, setL, evL, getL]
        refine HL_cons rfl ?_
        refine o_move ?_
        try dsimp only [putL, setL, evL, getL]
        obtain ⟨u57, hu57, H⟩ := headE H
        obtain ⟨b57, o57, cs57, hr57, hh57, hel57⟩ := Rd.elb HRp0 hu57
        obtain rfl := hr57
        refine HL_cons rfl ?_
        refine hel57 s52 rfl rfl Try.underlying22 tI3 ?_
        try dsimp only [putL, setL, evL, getL]
        refine HL_cons rfl ?_
        refine o_load' rfl Try.underlying3 rfl ((hh57 hH.bs.mono) 0 _ rfl) ?_
        try dsimp only [putL, setL, evL, getL]
        obtain ⟨u58, hu58, H⟩ := headE H
        obtain ⟨b58, o58, cs58, hA58, hr58, hh58, hel58⟩ := hH.elo 0 rfl hu58
        obtain rfl := hr58
        refine HL_cons rfl ?_
        refine hel58 s52 (sliceLen hl41) rfl Try.underlying22 tI3 ?_
        try dsimp only [putL, setL, evL, getL]
        obtain ⟨x59, hx59, H⟩ := headE H
        refine HL_cons rfl ?_
        refine o_setF (vs := [.int .i64 u57]) (u := u57) hH 0 rfl rfl rfl rfl rfl tI3 hA58 hx59 (Ent.own (Ent.flat rfl)) ?_
        intro s59 hH'
        have hl59 := (st?_len hx59).trans hl41
        replace hH : Hp sb s F0 s59 [Ck.ol OI 3 A3 c3 x59] := hH'
        clear hH'
        try dsimp only [putL, setL, evL, getL]
        refine HL_nil ?_
        refine hK56 _ _ ?_
        refine HT_region ?_
        refine HL_cons rfl ?_
        refine o_move ?_
        try dsimp only [putL, setL, evL, getL]
        refine HL_cons rfl ?_
        refine o_bin rfl rfl rfl ?_
        try dsimp only [putL, setL, evL, getL]
        refine HL_cons rfl ?_
        refine o_assign ?_
        try dsimp only [putL, setL, evL, getL]
        refine HL_nil ?_
        exact hK52 _ _ ⟨kf, Nat.lt_succ_self kf, x59, IntKind.i64.wrap (x42 + 1), H, rfl, hH, hl59⟩
      · replace H := iteF hb55 H
        refine HT_false (congrArg Value.bool hb55) ?_
        refine HT_exit ?_
        exact hK6 _ _ ⟨x41, H, rfl, hH, hl41⟩
  · rintro l' s60 ⟨x33, H, hl, hH, hl33⟩
    generalize getL l' 4 = j4, getL l' 8 = j8, getL l' 9 = j9, getL l' 10 = j10, getL l' 11 = j11, getL l' 12 = j12, getL l' 13 = j13, getL l' 14 = j14, getL l' 15 = j15, getL l' 16 = j16, getL l' 17 = j17, getL l' 18 = j18, getL l' 19 = j19, getL l' 20 = j20 at hl
    subst hl
    replace H := hG6 _ H
    try dsimp only at H
    refine hK4 _ _ ?_
    refine HT_seq_k ?_
    intro K61 hK61
    refine HT_region ?_
    refine HL_cons rfl ?_
    refine o_move ?_
    try dsimp only [putL, setL, evL, getL]
    refine HL_cons rfl ?_
    refine o_assign ?_
    try dsimp only [putL, setL, evL, getL]
    refine HL_nil ?_
    refine hK61 _ _ ?_
    refine HT_ret ?_
    obtain rfl := Option.some.inj (show some _ = some r from H)
    exact hQr _ _ [.slice A3 x3.length c3] ⟨rfl, trivial⟩ ⟨A3, c3, (by rw [hl33]; first | done | rfl), hH⟩
def spec_l1In.f (p0 : Int) (p1 : Int) (p2 : Int) : Option Bool := if (decide (p0 ≥ p1)) = true then (some (decide (p0 ≤ p2))) else (some false)
def spec_l1In.post (sb s : St) (F0 : Fp) (r : Bool) : Value → St → Prop := fun v s' => v = .bool r ∧ Hp sb s F0 s' []
set_option maxRecDepth 100000 in
set_option maxHeartbeats 4000000 in
theorem spec_l1In.ok (sb s : St) (F0 : Fp) (p0 : Int) (p1 : Int) (p2 : Int) (hH : Hp sb s F0 s []) (r : Bool) (H : spec_l1In.f p0 p1 p2 = some r) : GCall Try.prog 31 #[.int .i64 p0, .int .i64 p1, .int .i64 p2] s (spec_l1In.post sb s F0 r) := by
  refine GCall_ofk [.tmp 6] [.int .i64 p0, .int .i64 p1, .int .i64 p2, undef, undef, undef, undef, undef, undef, undef, undef, undef, undef, undef, undef] Try.func31 rfl rfl rfl ?_
  intro w Q hQr hQn hQp
  replace H := topE H
  unfold spec_l1In.f at H
  refine HT_seq_k ?_
  intro K1 hK1
  refine HT_region ?_
  refine HL_cons rfl ?_
  refine o_assign ?_
  try dsimp only [putL, setL, evL, getL]
  refine HL_nil ?_
  refine hK1 _ _ ?_
  refine HT_seq_k ?_
  intro K2 hK2
  refine HT_region ?_
  refine HL_cons rfl ?_
  refine o_move ?_
  try dsimp only [putL, setL, evL, getL]
  refine HL_cons rfl ?_
  refine o_move ?_
  try dsimp only [putL, setL, evL, getL]
  refine HL_cons rfl ?_
  refine o_bin rfl rfl rfl ?_
  try dsimp only [putL, setL, evL, getL]
  refine HL_cons rfl ?_
  refine o_move ?_
  try dsimp only [putL, setL, evL, getL]
  rcases Bool.eq_false_or_eq_true (decide (p0 ≥ p1)) with hb3 | hb3
  · replace H := iteT hb3 H
    refine HL_want ?_ ?_
    · exact wantT (j := 3) (b := true) (t := 10) (c := decide (p0 ≥ p1)) rfl rfl rfl rfl hb3
    refine o_move ?_
    try dsimp only [putL, setL, evL, getL]
    refine HL_want ?_ ?_
    · exact wantT (j := 3) (b := true) (t := 10) (c := decide (p0 ≥ p1)) rfl rfl rfl rfl hb3
    refine o_move ?_
    try dsimp only [putL, setL, evL, getL]
    refine HL_want ?_ ?_
    · exact wantT (j := 3) (b := true) (t := 10) (c := decide (p0 ≥ p1)) rfl rfl rfl rfl hb3
    refine o_bin rfl rfl rfl ?_
    try dsimp only [putL, setL, evL, getL]
    refine HL_cons rfl ?_
    refine o_pickT rfl hb3 ?_
    try dsimp only [putL, setL, evL, getL]
    refine HL_cons rfl ?_
    refine o_assign ?_
    try dsimp only [putL, setL, evL, getL]
    refine HL_nil ?_
    refine hK2 _ _ ?_
    refine HT_ret ?_
    obtain rfl := Option.some.inj (show some _ = some r from H)
    exact hQr _ _ [.bool (decide (p0 ≤ p2))] ⟨rfl, trivial⟩ ⟨rfl, hH⟩
  · replace H := iteF hb3 H
    refine HL_skip ?_ ?_
    · exact wantF (j := 3) (b := true) (t := 10) (c := decide (p0 ≥ p1)) rfl rfl rfl rfl hb3
    try dsimp only [putL, setL, evL, getL]
    refine HL_skip ?_ ?_
    · exact wantF (j := 3) (b := true) (t := 10) (c := decide (p0 ≥ p1)) rfl rfl rfl rfl hb3
    try dsimp only [putL, setL, evL, getL]
    refine HL_skip ?_ ?_
    · exact wantF (j := 3) (b := true) (t := 10) (c := decide (p0 ≥ p1)) rfl rfl rfl rfl hb3
    try dsimp only [putL, setL, evL, getL]
    refine HL_cons rfl ?_
    refine o_pickF rfl hb3 ?_
    try dsimp only [putL, setL, evL, getL]
    refine HL_cons rfl ?_
    refine o_assign ?_
    try dsimp only [putL, setL, evL, getL]
    refine HL_nil ?_
    refine hK2 _ _ ?_
    refine HT_ret ?_
    obtain rfl := Option.some.inj (show some _ = some r from H)
    exact hQr _ _ [.bool false] ⟨rfl, trivial⟩ ⟨rfl, hH⟩
def spec_GoodRune.f (p0 : Int) : Option Bool := (spec_l1In.f p0 0 1114111).bind fun u3 => if u3 = true then ((spec_l1In.f p0 55296 57343).bind fun u5 => some (!u5)) else (some false)
def spec_GoodRune.post (sb s : St) (F0 : Fp) (r : Bool) : Value → St → Prop := fun v s' => v = .bool r ∧ Hp sb s F0 s' []
set_option maxRecDepth 100000 in
set_option maxHeartbeats 4000000 in
theorem spec_GoodRune.ok (sb s : St) (F0 : Fp) (p0 : Int) (hH : Hp sb s F0 s []) (r : Bool) (H : spec_GoodRune.f p0 = some r) : GCall Try.prog 55 #[.int .i64 p0] s (spec_GoodRune.post sb s F0 r) := by
  refine GCall_ofk [.tmp 2] [.int .i64 p0, undef, undef, undef, undef, undef, undef, undef, undef, undef] Try.func55 rfl rfl rfl ?_
  intro w Q hQr hQn hQp
  replace H := topE H
  unfold spec_GoodRune.f at H
  refine HT_seq_k ?_
  intro K1 hK1
  refine HT_region ?_
  refine HL_cons rfl ?_
  refine o_assign ?_
  try dsimp only [putL, setL, evL, getL]
  refine HL_nil ?_
  refine hK1 _ _ ?_
  refine HT_seq_k ?_
  intro K2 hK2
  refine HT_region ?_
  refine HL_cons rfl ?_
  refine o_move ?_
  try dsimp only [putL, setL, evL, getL]
  obtain ⟨u3, hu3, H⟩ := headE H
  refine HL_cons rfl ?_
  refine o_call (args := #[.int .i64 p0, .int .i64 0, .int .i64 1114111]) Try.func31 rfl rfl rfl (spec_l1In.ok sb s no p0 0 1114111 (Hp.own hH.bs) _ hu3) ?_
  rintro _ s3 ⟨rfl, hD⟩
  replace hH := hH.back0 hD (Up.refl _ _ _)
  clear hD
  dsimp only [addC, setC, rmC, selC, getC] at hH
  try dsimp only [putL, setL, evL, getL]
  refine HL_cons rfl ?_
  refine o_move ?_
  try dsimp only [putL, setL, evL, getL]
  rcases Bool.eq_false_or_eq_true u3 with hb4 | hb4
  · replace H := iteT hb4 H
    refine HL_want ?_ ?_
    · exact wantT (j := 2) (b := true) (t := 5) (c := u3) rfl rfl rfl rfl hb4
    refine o_move ?_
    try dsimp only [putL, setL, evL, getL]
    obtain ⟨u5, hu5, H⟩ := headE H
    refine HL_want ?_ ?_
    · exact wantT (j := 2) (b := true) (t := 5) (c := u3) rfl rfl rfl rfl hb4
    refine o_call (args := #[.int .i64 p0, .int .i64 55296, .int .i64 57343]) Try.func31 rfl rfl rfl (spec_l1In.ok sb s3 no p0 55296 57343 (Hp.own hH.bs) _ hu5) ?_
    rintro _ s5 ⟨rfl, hD⟩
    replace hH := hH.back0 hD (Up.refl _ _ _)
    clear hD
    dsimp only [addC, setC, rmC, selC, getC] at hH
    try dsimp only [putL, setL, evL, getL]
    refine HL_want ?_ ?_
    · exact wantT (j := 2) (b := true) (t := 5) (c := u3) rfl rfl rfl rfl hb4
    refine o_not rfl ?_
    try dsimp only [putL, setL, evL, getL]
    refine HL_cons rfl ?_
    refine o_pickT rfl hb4 ?_
    try dsimp only [putL, setL, evL, getL]
    refine HL_cons rfl ?_
    refine o_assign ?_
    try dsimp only [putL, setL, evL, getL]
    refine HL_nil ?_
    refine hK2 _ _ ?_
    refine HT_ret ?_
    obtain rfl := Option.some.inj (show some _ = some r from H)
    exact hQr _ _ [.bool (!u5)] ⟨rfl, trivial⟩ ⟨rfl, hH⟩
  · replace H := iteF hb4 H
    refine HL_skip ?_ ?_
    · exact wantF (j := 2) (b := true) (t := 5) (c := u3) rfl rfl rfl rfl hb4
    try dsimp only [putL, setL, evL, getL]
    refine HL_skip ?_ ?_
    · exact wantF (j := 2) (b := true) (t := 5) (c := u3) rfl rfl rfl rfl hb4
    try dsimp only [putL, setL, evL, getL]
    refine HL_skip ?_ ?_
    · exact wantF (j := 2) (b := true) (t := 5) (c := u3) rfl rfl rfl rfl hb4
    try dsimp only [putL, setL, evL, getL]
    refine HL_cons rfl ?_
    refine o_pickF rfl hb4 ?_
    try dsimp only [putL, setL, evL, getL]
    refine HL_cons rfl ?_
    refine o_assign ?_
    try dsimp only [putL, setL, evL, getL]
    refine HL_nil ?_
    refine hK2 _ _ ?_
    refine HT_ret ?_
    obtain rfl := Option.some.inj (show some _ = some r from H)
    exact hQr _ _ [.bool false] ⟨rfl, trivial⟩ ⟨rfl, hH⟩
def spec_l1AllRunes.l1 (p0 : List (Int)) : Nat → Int → Option (Lo Unit Bool)
  | 0, _ => none
  | kf + 1, x48 => if (decide (x48 < (p0.length : Int))) = true then ((rd? p0 x48).bind fun u66 => (spec_GoodRune.f u66).bind fun u68 => if (!u68) = true then ((some false).bind fun z => some (Lo.ret z)) else (spec_l1AllRunes.l1 p0 kf (IntKind.i64.wrap (x48 + 1)))) else (some (Lo.go ()))
def spec_l1AllRunes.f (p0 : List (Int)) : Option Bool := (spec_l1AllRunes.l1 p0 ((((p0.length : Int)) - (0)).toNat + 2) 0).bind fun (o : Lo Unit Bool) => match o with | .go () => (some (decide ((p0.length : Int) ≤ 1000))) | .ret z => some z
def spec_l1AllRunes.post (sb s : St) (F0 : Fp) (r : Bool) : Value → St → Prop := fun v s' => v = .bool r ∧ Hp sb s F0 s' []
set_option maxRecDepth 100000 in
set_option maxHeartbeats 4000000 in
theorem spec_l1AllRunes.ok (sb s : St) (F0 : Fp) (A0p : Option Addr) (c0p : Nat) (p0 : List (Int)) (HRp0 : Rd KI sb A0p c0p p0) (hH : Hp sb s F0 s []) (r : Bool) (H : spec_l1AllRunes.f p0 = some r) : GCall Try.prog 32 #[.slice A0p p0.length c0p] s (spec_l1AllRunes.post sb s F0 r) := by
  refine GCall_ofk [.tmp 2] [.slice A0p p0.length c0p, undef, undef, undef, undef, undef, undef, undef, undef, undef, undef, undef, undef, undef, undef, undef, undef, undef] Try.func32 rfl rfl rfl ?_
  intro w Q hQr hQn hQp
  replace H := topE H
  unfold spec_l1AllRunes.f at H
  refine HT_seq_k ?_
  intro K1 hK1
  refine HT_region ?_
  refine HL_cons rfl ?_
  refine o_assign ?_
  try dsimp only [putL, setL, evL, getL]
  refine HL_nil ?_
  refine hK1 _ _ ?_
  refine HT_seq_k ?_
  intro K2 hK2
  refine HT_seq_k ?_
  intro K3 hK3
  refine HT_region ?_
  refine HL_cons rfl ?_
  refine o_move ?_
  try dsimp only [putL, setL, evL, getL]
  refine HL_cons rfl ?_
  refine o_len rfl Try.underlying22 ?_
  try dsimp only [putL, setL, evL, getL]
  refine HL_cons rfl ?_
  refine o_move ?_
  try dsimp only [putL, setL, evL, getL]
  refine HL_nil ?_
  refine hK3 _ _ ?_
  refine joinH H fun G4 hG4 H => ?_
  refine HT_toK (fun l' s' => G4 (.go ()) = some r ∧ l' = [.slice A0p p0.length c0p, undef, getL l' 2, undef, getL l' 4, .slice A0p p0.length c0p, .int .i64 (p0.length : Int), getL l' 7, getL l' 8, getL l' 9, getL l' 10, getL l' 11, getL l' 12, getL l' 13, getL l' 14, undef, undef, undef] ∧ Hp sb s F0 s' []) ?_ ?_
  · intro K4 hK4
    refine HT_block ?_
    refine HT_loopK (fun kf l' s' => ∃ (x48 : Int), (spec_l1AllRunes.l1 p0 kf x48).bind G4 = some r ∧ l' = [.slice A0p p0.length c0p, undef, getL l' 2, undef, getL l' 4, .slice A0p p0.length c0p, .int .i64 (p0.length : Int), .int .i64 x48, getL l' 8, getL l' 9, getL l' 10, getL l' 11, getL l' 12, getL l' 13, getL l' 14, undef, undef, undef] ∧ Hp sb s F0 s' []) ((((p0.length : Int)) - (0)).toNat + 2) ⟨0, H, rfl, hH⟩ ?_
    rintro kf l' s60 ⟨x48, H, hl, hH⟩ K60 hK60
    generalize getL l' 2 = j2, getL l' 4 = j4, getL l' 8 = j8, getL l' 9 = j9, getL l' 10 = j10, getL l' 11 = j11, getL l' 12 = j12, getL l' 13 = j13, getL l' 14 = j14 at hl
    subst hl
    cases kf with
    | zero => simp [spec_l1AllRunes.l1] at H
    | succ kf =>
      rw [spec_l1AllRunes.l1] at H
      refine HT_seq_k ?_
      intro K61 hK61
      refine HT_region ?_
      refine HL_cons rfl ?_
      refine o_bin rfl rfl rfl ?_
      try dsimp only [putL, setL, evL, getL]
      refine HL_nil ?_
      refine hK61 _ _ ?_
      refine HT_seq_k ?_
      intro K62 hK62
      rcases Bool.eq_false_or_eq_true (decide (x48 < (p0.length : Int))) with hb63 | hb63
      · replace H := iteT hb63 H
        refine HT_true (congrArg Value.bool hb63) ?_
        refine HT_skip ?_
        refine hK62 _ _ ?_
        refine HT_seq_k ?_
        intro K64 hK64
        refine HT_block ?_
        refine HT_seq_k ?_
        intro K65 hK65
        refine HT_region ?_
        obtain ⟨u66, hu66, H⟩ := headE H
        obtain ⟨b66, o66, cs66, hr66, hh66, hel66⟩ := Rd.elb HRp0 hu66
        obtain rfl := hr66
        refine HL_cons rfl ?_
        refine hel66 s60 rfl rfl Try.underlying22 tI3 ?_
        try dsimp only [putL, setL, evL, getL]
        refine HL_cons rfl ?_
        refine o_load' rfl Try.underlying3 rfl ((hh66 hH.bs.mono) 0 _ rfl) ?_
        try dsimp only [putL, setL, evL, getL]
        refine HL_cons rfl ?_
        refine o_assign ?_
        try dsimp only [putL, setL, evL, getL]
        refine HL_nil ?_
        refine hK65 _ _ ?_
        refine HT_seq_k ?_
        intro K67 hK67
        refine HT_region ?_
        refine HL_cons rfl ?_
        refine o_move ?_
        try dsimp only [putL, setL, evL, getL]
        obtain ⟨u68, hu68, H⟩ := headE H
        refine HL_cons rfl ?_
        refine o_call (args := #[.int .i64 u66]) Try.func55 rfl rfl rfl (spec_GoodRune.ok sb s60 no u66 (Hp.own hH.bs) _ hu68) ?_
        rintro _ s68 ⟨rfl, hD⟩
        replace hH := hH.back0 hD (Up.refl _ _ _)
        clear hD
        dsimp only [addC, setC, rmC, selC, getC] at hH
        try dsimp only [putL, setL, evL, getL]
        refine HL_cons rfl ?_
        refine o_not rfl ?_
        try dsimp only [putL, setL, evL, getL]
        refine HL_nil ?_
        refine hK67 _ _ ?_
        rcases Bool.eq_false_or_eq_true (!u68) with hb69 | hb69
        · replace H := iteT hb69 H
          refine HT_true (congrArg Value.bool hb69) ?_
          refine HT_seq_k ?_
          intro K70 hK70
          refine HT_region ?_
          refine HL_cons rfl ?_
          refine o_assign ?_
          try dsimp only [putL, setL, evL, getL]
          refine HL_nil ?_
          refine hK70 _ _ ?_
          refine HT_ret ?_
          replace H := escH (fun z hz => hG4 _ hz) H
          obtain rfl := Option.some.inj (show some _ = some r from H)
          exact hQr _ _ [.bool false] ⟨rfl, trivial⟩ ⟨rfl, hH⟩
        · replace H := iteF hb69 H
          refine HT_false (congrArg Value.bool hb69) ?_
          refine HT_skip ?_
          refine hK64 _ _ ?_
          refine HT_region ?_
          refine HL_cons rfl ?_
          refine o_bin rfl rfl rfl ?_
          try dsimp only [putL, setL, evL, getL]
          refine HL_cons rfl ?_
          refine o_move ?_
          try dsimp only [putL, setL, evL, getL]
          refine HL_nil ?_
          exact hK60 _ _ ⟨kf, Nat.lt_succ_self kf, IntKind.i64.wrap (x48 + 1), H, rfl, hH⟩
      · replace H := iteF hb63 H
        refine HT_false (congrArg Value.bool hb63) ?_
        refine HT_exit ?_
        exact hK4 _ _ ⟨H, rfl, hH⟩
  · rintro l' s71 ⟨H, hl, hH⟩
    generalize getL l' 2 = j2, getL l' 4 = j4, getL l' 7 = j7, getL l' 8 = j8, getL l' 9 = j9, getL l' 10 = j10, getL l' 11 = j11, getL l' 12 = j12, getL l' 13 = j13, getL l' 14 = j14 at hl
    subst hl
    replace H := hG4 _ H
    try dsimp only at H
    refine hK2 _ _ ?_
    refine HT_seq_k ?_
    intro K72 hK72
    refine HT_region ?_
    refine HL_cons rfl ?_
    refine o_move ?_
    try dsimp only [putL, setL, evL, getL]
    refine HL_cons rfl ?_
    refine o_len rfl Try.underlying22 ?_
    try dsimp only [putL, setL, evL, getL]
    refine HL_cons rfl ?_
    refine o_bin rfl rfl rfl ?_
    try dsimp only [putL, setL, evL, getL]
    refine HL_cons rfl ?_
    refine o_assign ?_
    try dsimp only [putL, setL, evL, getL]
    refine HL_nil ?_
    refine hK72 _ _ ?_
    refine HT_ret ?_
    obtain rfl := Option.some.inj (show some _ = some r from H)
    exact hQr _ _ [.bool (decide ((p0.length : Int) ≤ 1000))] ⟨rfl, trivial⟩ ⟨rfl, hH⟩
def spec_l15List.f (p0 : List (Int)) : Option Bool := (spec_l1AllRunes.f p0).bind fun u3 => if u3 = true then (some (decide ((p0.length : Int) ≤ 60))) else (some false)
def spec_l15List.post (sb s : St) (F0 : Fp) (r : Bool) : Value → St → Prop := fun v s' => v = .bool r ∧ Hp sb s F0 s' []
set_option maxRecDepth 100000 in
set_option maxHeartbeats 4000000 in
theorem spec_l15List.ok (sb s : St) (F0 : Fp) (A0p : Option Addr) (c0p : Nat) (p0 : List (Int)) (HRp0 : Rd KI sb A0p c0p p0) (hH : Hp sb s F0 s []) (r : Bool) (H : spec_l15List.f p0 = some r) : GCall Try.prog 39 #[.slice A0p p0.length c0p] s (spec_l15List.post sb s F0 r) := by
  refine GCall_ofk [.tmp 2] [.slice A0p p0.length c0p, undef, undef, undef, undef, undef, undef, undef, undef, undef] Try.func39 rfl rfl rfl ?_
  intro w Q hQr hQn hQp
  replace H := topE H
  unfold spec_l15List.f at H
  refine HT_seq_k ?_
  intro K1 hK1
  refine HT_region ?_
  refine HL_cons rfl ?_
  refine o_assign ?_
  try dsimp only [putL, setL, evL, getL]
  refine HL_nil ?_
  refine hK1 _ _ ?_
  refine HT_seq_k ?_
  intro K2 hK2
  refine HT_region ?_
  refine HL_cons rfl ?_
  refine o_move ?_
  try dsimp only [putL, setL, evL, getL]
  obtain ⟨u3, hu3, H⟩ := headE H
  refine HL_cons rfl ?_
  refine o_call (args := #[.slice A0p p0.length c0p]) Try.func32 rfl rfl rfl (spec_l1AllRunes.ok sb s no A0p c0p p0 HRp0 (Hp.own hH.bs) _ hu3) ?_
  rintro _ s3 ⟨rfl, hD⟩
  replace hH := hH.back0 hD (Up.refl _ _ _)
  clear hD
  dsimp only [addC, setC, rmC, selC, getC] at hH
  try dsimp only [putL, setL, evL, getL]
  refine HL_cons rfl ?_
  refine o_move ?_
  try dsimp only [putL, setL, evL, getL]
  rcases Bool.eq_false_or_eq_true u3 with hb4 | hb4
  · replace H := iteT hb4 H
    refine HL_want ?_ ?_
    · exact wantT (j := 2) (b := true) (t := 5) (c := u3) rfl rfl rfl rfl hb4
    refine o_move ?_
    try dsimp only [putL, setL, evL, getL]
    refine HL_want ?_ ?_
    · exact wantT (j := 2) (b := true) (t := 5) (c := u3) rfl rfl rfl rfl hb4
    refine o_len rfl Try.underlying22 ?_
    try dsimp only [putL, setL, evL, getL]
    refine HL_want ?_ ?_
    · exact wantT (j := 2) (b := true) (t := 5) (c := u3) rfl rfl rfl rfl hb4
    refine o_bin rfl rfl rfl ?_
    try dsimp only [putL, setL, evL, getL]
    refine HL_cons rfl ?_
    refine o_pickT rfl hb4 ?_
    try dsimp only [putL, setL, evL, getL]
    refine HL_cons rfl ?_
    refine o_assign ?_
    try dsimp only [putL, setL, evL, getL]
    refine HL_nil ?_
    refine hK2 _ _ ?_
    refine HT_ret ?_
    obtain rfl := Option.some.inj (show some _ = some r from H)
    exact hQr _ _ [.bool (decide ((p0.length : Int) ≤ 60))] ⟨rfl, trivial⟩ ⟨rfl, hH⟩
  · replace H := iteF hb4 H
    refine HL_skip ?_ ?_
    · exact wantF (j := 2) (b := true) (t := 5) (c := u3) rfl rfl rfl rfl hb4
    try dsimp only [putL, setL, evL, getL]
    refine HL_skip ?_ ?_
    · exact wantF (j := 2) (b := true) (t := 5) (c := u3) rfl rfl rfl rfl hb4
    try dsimp only [putL, setL, evL, getL]
    refine HL_skip ?_ ?_
    · exact wantF (j := 2) (b := true) (t := 5) (c := u3) rfl rfl rfl rfl hb4
    try dsimp only [putL, setL, evL, getL]
    refine HL_cons rfl ?_
    refine o_pickF rfl hb4 ?_
    try dsimp only [putL, setL, evL, getL]
    refine HL_cons rfl ?_
    refine o_assign ?_
    try dsimp only [putL, setL, evL, getL]
    refine HL_nil ?_
    refine hK2 _ _ ?_
    refine HT_ret ?_
    obtain rfl := Option.some.inj (show some _ = some r from H)
    exact hQr _ _ [.bool false] ⟨rfl, trivial⟩ ⟨rfl, hH⟩
def spec_l15Numbers.l1 (p0 : Int) : Nat → (List (Int)) → Int → Option (List (Int))
  | 0, _, _ => none
  | kf + 1, x38, x39 => if (decide (x39 < p0)) = true then ((app? 17592186044416 x38 [x39]).bind fun x54 => spec_l15Numbers.l1 p0 kf x54 (IntKind.i64.wrap (x39 + 1))) else (some x38)
def spec_l15Numbers.f (p0 : Int) : Option (List (Int)) := (spec_l15Numbers.l1 p0 (((p0) - (0)).toNat + 2) [] 0).bind fun (o : (List (Int))) => match o with | x30 => (some x30)
def spec_l15Numbers.post (sb s : St) (F0 : Fp) (r : (List (Int))) : Value → St → Prop := fun v s' => ∃ (A0 : Option Addr) (c0 : Nat), v = .slice A0 r.length c0 ∧ Hp sb s F0 s' [Ck.ol OI 3 A0 c0 r]
set_option maxRecDepth 100000 in
set_option maxHeartbeats 4000000 in
theorem spec_l15Numbers.ok (sb s : St) (F0 : Fp) (p0 : Int) (hH : Hp sb s F0 s []) (r : (List (Int))) (H : spec_l15Numbers.f p0 = some r) : GCall Try.prog 45 #[.int .i64 p0] s (spec_l15Numbers.post sb s F0 r) := by
  refine GCall_ofk [.tmp 2] [.int .i64 p0, undef, undef, undef, undef, undef, undef, undef, undef, undef, undef, undef, undef, undef, undef] Try.func45 rfl rfl rfl ?_
  intro w Q hQr hQn hQp
  replace H := topE H
  unfold spec_l15Numbers.f at H
  refine HT_seq_k ?_
  intro K1 hK1
  refine HT_region ?_
  refine HL_cons rfl ?_
  refine o_assign ?_
  try dsimp only [putL, setL, evL, getL]
  refine HL_nil ?_
  refine hK1 _ _ ?_
  refine HT_seq_k ?_
  intro K2 hK2
  refine HT_region ?_
  refine HL_cons rfl ?_
  refine o_assign ?_
  try dsimp only [putL, setL, evL, getL]
  refine HL_nil ?_
  refine hK2 _ _ ?_
  refine HT_seq_k ?_
  intro K3 hK3
  refine HT_seq_k ?_
  intro K4 hK4
  refine HT_region ?_
  refine HL_cons rfl ?_
  refine o_assign ?_
  try dsimp only [putL, setL, evL, getL]
  refine HL_nil ?_
  refine hK4 _ _ ?_
  refine joinH H fun G5 hG5 H => ?_
  refine HT_toK (fun l' s' => ∃ (x30 : List (Int)) (A30 : Option Addr) (c30 : Nat), G5 x30 = some r ∧ l' = [.int .i64 p0, undef, .slice none 0 0, .slice A30 x30.length c30, getL l' 4, getL l' 5, getL l' 6, getL l' 7, getL l' 8, getL l' 9, getL l' 10, getL l' 11, getL l' 12, getL l' 13, undef] ∧ Hp sb s F0 s' [Ck.ol OI 3 A30 c30 x30]) ?_ ?_
  · intro K5 hK5
    refine HT_block ?_
    refine HT_loopK (fun kf l' s' => ∃ (x38 : List (Int)) (A38 : Option Addr) (c38 : Nat) (x39 : Int), (spec_l15Numbers.l1 p0 kf x38 x39).bind G5 = some r ∧ l' = [.int .i64 p0, undef, .slice none 0 0, .slice A38 x38.length c38, .int .i64 x39, getL l' 5, getL l' 6, getL l' 7, getL l' 8, getL l' 9, getL l' 10, getL l' 11, getL l' 12, getL l' 13, undef] ∧ Hp sb s F0 s' [Ck.ol OI 3 A38 c38 x38]) (((p0) - (0)).toNat + 2) ⟨[], none, 0, 0, H, rfl, (hH.nil (K := KI) OI 3)⟩ ?_
    rintro kf l' s48 ⟨x38, A38, c38, x39, H, hl, hH⟩ K48 hK48
    generalize getL l' 5 = j5, getL l' 6 = j6, getL l' 7 = j7, getL l' 8 = j8, getL l' 9 = j9, getL l' 10 = j10, getL l' 11 = j11, getL l' 12 = j12, getL l' 13 = j13 at hl
    subst hl
    cases kf with
    | zero => simp [spec_l15Numbers.l1] at H
    | succ kf =>
      rw [spec_l15Numbers.l1] at H
      refine HT_seq_k ?_
      intro K49 hK49
      refine HT_seq_k ?_
      intro K50 hK50
      refine HT_region ?_
      refine HL_cons rfl ?_
      refine o_move ?_
      try dsimp only [putL, setL, evL, getL]
      refine HL_cons rfl ?_
      refine o_move ?_
      try dsimp only [putL, setL, evL, getL]
      refine HL_cons rfl ?_
      refine o_bin rfl rfl rfl ?_
      try dsimp only [putL, setL, evL, getL]
      refine HL_nil ?_
      refine hK50 _ _ ?_
      rcases Bool.eq_false_or_eq_true (decide (x39 < p0)) with hb51 | hb51
      · replace H := iteT hb51 H
        refine HT_true (congrArg Value.bool hb51) ?_
        refine HT_skip ?_
        refine hK49 _ _ ?_
        refine HT_seq_k ?_
        intro K52 hK52
        refine HT_block ?_
        refine HT_region ?_
        refine HL_cons rfl ?_
        refine o_move ?_
        try dsimp only [putL, setL, evL, getL]
        refine HL_cons rfl ?_
        refine o_move ?_
        try dsimp only [putL, setL, evL, getL]
        refine HL_cons rfl ?_
        refine o_litF (K := KI) (O := OI) (ca := #[.int .i64 x39]) [[.int .i64 x39]] [x39] hH Try.underlying22 tI3 rfl (by decide) rfl rfl rfl rfl ⟨rfl, Ent.own (Ent.flat rfl), trivial⟩ ?_
        intro A53 s53 hH' hG
        replace hH : Hp sb s F0 s53 [Ck.ol OI 3 A38 c38 x38, Ck.ol OI 3 A53 1 [x39]] := hH'
        clear hH' hG
        try dsimp only [putL, setL, evL, getL]
        obtain ⟨x54, hx54, H⟩ := headE H
        refine HL_cons rfl ?_
        refine o_appF (K := KI) (n := 17592186044416) (A := A38) (c := c38) (xs := x38) (ys := [x39]) (B := A53) (c2 := 1) hH 0 rfl rfl rfl rfl Try.underlying22 tI3 rfl (by decide) (by decide) (by decide) (Src.flat (hH.rd 1 rfl)) hx54 ?_
        intro A54 c54 s54 hH'
        replace hH : Hp sb s F0 s54 [Ck.ol OI 3 A54 c54 x54, Ck.ol OI 3 A53 1 [x39]] := hH'
        clear hH'
        try dsimp only [putL, setL, evL, getL]
        refine HL_cons rfl ?_
        refine o_assign ?_
        try dsimp only [putL, setL, evL, getL]
        refine HL_nil ?_
        refine hK52 _ _ ?_
        refine HT_region ?_
        refine HL_cons rfl ?_
        refine o_move ?_
        try dsimp only [putL, setL, evL, getL]
        refine HL_cons rfl ?_
        refine o_bin rfl rfl rfl ?_
        try dsimp only [putL, setL, evL, getL]
        refine HL_cons rfl ?_
        refine o_assign ?_
        try dsimp only [putL, setL, evL, getL]
        refine HL_nil ?_
        exact hK48 _ _ ⟨kf, Nat.lt_succ_self kf, x54, A54, c54, IntKind.i64.wrap (x39 + 1), H, rfl, hH.sel [0] (by decide)⟩
      · replace H := iteF hb51 H
        refine HT_false (congrArg Value.bool hb51) ?_
        refine HT_exit ?_
        exact hK5 _ _ ⟨x38, A38, c38, H, rfl, hH⟩
  · rintro l' s55 ⟨x30, A30, c30, H, hl, hH⟩
    generalize getL l' 4 = j4, getL l' 5 = j5, getL l' 6 = j6, getL l' 7 = j7, getL l' 8 = j8, getL l' 9 = j9, getL l' 10 = j10, getL l' 11 = j11, getL l' 12 = j12, getL l' 13 = j13 at hl
    subst hl
    replace H := hG5 _ H
    try dsimp only at H
    refine hK3 _ _ ?_
    refine HT_seq_k ?_
    intro K56 hK56
    refine HT_region ?_
    refine HL_cons rfl ?_
    refine o_move ?_
    try dsimp only [putL, setL, evL, getL]
    refine HL_cons rfl ?_
    refine o_assign ?_
    try dsimp only [putL, setL, evL, getL]
    refine HL_nil ?_
    refine hK56 _ _ ?_
    refine HT_ret ?_
    obtain rfl := Option.some.inj (show some _ = some r from H)
    exact hQr _ _ [.slice A30 x30.length c30] ⟨rfl, trivial⟩ ⟨A30, c30, rfl, hH⟩
def spec_l1Least.f (p0 : Int) (p1 : Int) : Option Int := if (decide (p0 < p1)) = true then (some p0) else (some p1)
def spec_l1Least.post (sb s : St) (F0 : Fp) (r : Int) : Value → St → Prop := fun v s' => v = .int .i64 r ∧ Hp sb s F0 s' []
set_option maxRecDepth 100000 in
set_option maxHeartbeats 4000000 in
theorem spec_l1Least.ok (sb s : St) (F0 : Fp) (p0 : Int) (p1 : Int) (hH : Hp sb s F0 s []) (r : Int) (H : spec_l1Least.f p0 p1 = some r) : GCall Try.prog 60 #[.int .i64 p0, .int .i64 p1] s (spec_l1Least.post sb s F0 r) := by
  refine GCall_ofk [.tmp 4] [.int .i64 p0, .int .i64 p1, undef, undef, undef, undef, undef, undef, undef, undef] Try.func60 rfl rfl rfl ?_
  intro w Q hQr hQn hQp
  replace H := topE H
  unfold spec_l1Least.f at H
  refine HT_seq_k ?_
  intro K1 hK1
  refine HT_region ?_
  refine HL_cons rfl ?_
  refine o_assign ?_
  try dsimp only [putL, setL, evL, getL]
  refine HL_nil ?_
  refine hK1 _ _ ?_
  refine HT_seq_k ?_
  intro K2 hK2
  refine HT_seq_k ?_
  intro K3 hK3
  refine HT_region ?_
  refine HL_cons rfl ?_
  refine o_move ?_
  try dsimp only [putL, setL, evL, getL]
  refine HL_cons rfl ?_
  refine o_move ?_
  try dsimp only [putL, setL, evL, getL]
  refine HL_cons rfl ?_
  refine o_bin rfl rfl rfl ?_
  try dsimp only [putL, setL, evL, getL]
  refine HL_nil ?_
  refine hK3 _ _ ?_
  rcases Bool.eq_false_or_eq_true (decide (p0 < p1)) with hb4 | hb4
  · replace H := iteT hb4 H
    refine HT_true (congrArg Value.bool hb4) ?_
    refine HT_seq_k ?_
    intro K5 hK5
    refine HT_region ?_
    refine HL_cons rfl ?_
    refine o_move ?_
    try dsimp only [putL, setL, evL, getL]
    refine HL_cons rfl ?_
    refine o_assign ?_
    try dsimp only [putL, setL, evL, getL]
    refine HL_nil ?_
    refine hK5 _ _ ?_
    refine HT_ret ?_
    obtain rfl := Option.some.inj (show some _ = some r from H)
    exact hQr _ _ [.int .i64 p0] ⟨rfl, trivial⟩ ⟨rfl, hH⟩
  · replace H := iteF hb4 H
    refine HT_false (congrArg Value.bool hb4) ?_
    refine HT_skip ?_
    refine hK2 _ _ ?_
    refine HT_seq_k ?_
    intro K6 hK6
    refine HT_region ?_
    refine HL_cons rfl ?_
    refine o_move ?_
    try dsimp only [putL, setL, evL, getL]
    refine HL_cons rfl ?_
    refine o_assign ?_
    try dsimp only [putL, setL, evL, getL]
    refine HL_nil ?_
    refine hK6 _ _ ?_
    refine HT_ret ?_
    obtain rfl := Option.some.inj (show some _ = some r from H)
    exact hQr _ _ [.int .i64 p1] ⟨rfl, trivial⟩ ⟨rfl, hH⟩
def spec_l15Row.l1 (p0 : List (Int)) (p1 : Int) (p2 : List (Int)) : Nat → (List (Int)) → Int → Option (List (Int))
  | 0, _, _ => none
  | kf + 1, x177, x178 => if (decide (x178 < (p2.length : Int))) = true then ((rd? p2 x178).bind fun u247 => (rd? p0 x178).bind fun u249 => (if (u247 != p1) = true then (some (IntKind.i64.wrap (u249 + 1))) else (some u249)).bind fun (o : Int) => match o with | x253 => ((rd? p0 (IntKind.i64.wrap (x178 + 1))).bind fun u258 => (rd? x177 x178).bind fun u259 => (spec_l1Least.f u258 u259).bind fun u260 => (spec_l1Least.f x253 (IntKind.i64.wrap (u260 + 1))).bind fun u261 => (app? 17592186044416 x177 [u261]).bind fun x263 => spec_l15Row.l1 p0 p1 p2 kf x263 (IntKind.i64.wrap (x178 + 1)))) else (some x177)
def spec_l15Row.f (p0 : List (Int)) (p1 : Int) (p2 : List (Int)) (p3 : Int) : Option (List (Int)) := (spec_l15Row.l1 p0 p1 p2 ((((p2.length : Int)) - (0)).toNat + 2) [p3] 0).bind fun (o : (List (Int))) => match o with | x135 => (some x135)
def spec_l15Row.post (sb s : St) (F0 : Fp) (r : (List (Int))) : Value → St → Prop := fun v s' => ∃ (A0 : Option Addr) (c0 : Nat), v = .slice A0 r.length c0 ∧ Hp sb s F0 s' [Ck.ol OI 3 A0 c0 r]
set_option maxRecDepth 100000 in
set_option maxHeartbeats 4000000 in
theorem spec_l15Row.ok (sb s : St) (F0 : Fp) (A0p : Option Addr) (c0p : Nat) (p0 : List (Int)) (p1 : Int) (A2p : Option Addr) (c2p : Nat) (p2 : List (Int)) (p3 : Int) (HRp0 : Rd KI sb A0p c0p p0) (HRp2 : Rd KI sb A2p c2p p2) (hH : Hp sb s F0 s []) (r : (List (Int))) (H : spec_l15Row.f p0 p1 p2 p3 = some r) : GCall Try.prog 46 #[.slice A0p p0.length c0p, .int .i64 p1, .slice A2p p2.length c2p, .int .i64 p3] s (spec_l15Row.post sb s F0 r) := by
  refine GCall_ofk [.tmp 8] [.slice A0p p0.length c0p, .int .i64 p1, .slice A2p p2.length c2p, .int .i64 p3, undef, undef, undef, undef, undef, undef, undef, undef, undef, undef, undef, undef, undef, undef, undef, undef, undef, undef, undef, undef, undef, undef, undef, undef, undef, undef, undef, undef, undef, undef, undef, undef, undef, undef, undef, undef, undef, undef, undef, undef, undef, undef, undef, undef, undef, undef] Try.func46 rfl rfl rfl ?_
  intro w Q hQr hQn hQp
  replace H := topE H
  unfold spec_l15Row.f at H
  refine HT_seq_k ?_
  intro K1 hK1
  refine HT_region ?_
  refine HL_cons rfl ?_
  refine o_assign ?_
  try dsimp only [putL, setL, evL, getL]
  refine HL_nil ?_
  refine hK1 _ _ ?_
  refine HT_seq_k ?_
  intro K2 hK2
  refine HT_region ?_
  refine HL_cons rfl ?_
  refine o_move ?_
  try dsimp only [putL, setL, evL, getL]
  refine HL_cons rfl ?_
  refine o_litF (K := KI) (O := OI) (ca := #[.int .i64 p3]) [[.int .i64 p3]] [p3] hH Try.underlying22 tI3 rfl (by decide) rfl rfl rfl rfl ⟨rfl, Ent.own (Ent.flat rfl), trivial⟩ ?_
  intro A3 s3 hH' hG
  replace hH : Hp sb s F0 s3 [Ck.ol OI 3 A3 1 [p3]] := hH'
  clear hH' hG
  try dsimp only [putL, setL, evL, getL]
  refine HL_cons rfl ?_
  refine o_assign ?_
  try dsimp only [putL, setL, evL, getL]
  refine HL_nil ?_
  refine hK2 _ _ ?_
  refine HT_seq_k ?_
  intro K4 hK4
  refine HT_seq_k ?_
  intro K5 hK5
  refine HT_region ?_
  refine HL_cons rfl ?_
  refine o_move ?_
  try dsimp only [putL, setL, evL, getL]
  refine HL_cons rfl ?_
  refine o_len rfl Try.underlying22 ?_
  try dsimp only [putL, setL, evL, getL]
  refine HL_cons rfl ?_
  refine o_move ?_
  try dsimp only [putL, setL, evL, getL]
  refine HL_nil ?_
  refine hK5 _ _ ?_
  refine joinH H fun G6 hG6 H => ?_
  refine HT_toK (fun l' s' => ∃ (x135 : List (Int)) (A135 : Option Addr) (c135 : Nat), G6 x135 = some r ∧ l' = [.slice A0p p0.length c0p, .int .i64 p1, .slice A2p p2.length c2p, .int .i64 p3, undef, undef, undef, undef, .slice none 0 0, .slice A135 x135.length c135, getL l' 10, getL l' 11, getL l' 12, .int .i64 p3, .slice A3 [p3].length 1, .slice A2p p2.length c2p, .int .i64 (p2.length : Int), getL l' 17, getL l' 18, getL l' 19, getL l' 20, getL l' 21, getL l' 22, getL l' 23, getL l' 24, getL l' 25, getL l' 26, getL l' 27, getL l' 28, getL l' 29, getL l' 30, getL l' 31, getL l' 32, getL l' 33, getL l' 34, getL l' 35, getL l' 36, getL l' 37, getL l' 38, getL l' 39, getL l' 40, getL l' 41, getL l' 42, getL l' 43, getL l' 44, getL l' 45, getL l' 46, getL l' 47, getL l' 48, undef] ∧ Hp sb s F0 s' [Ck.ol OI 3 A135 c135 x135]) ?_ ?_
  · intro K6 hK6
    refine HT_block ?_
    refine HT_loopK (fun kf l' s' => ∃ (x177 : List (Int)) (A177 : Option Addr) (c177 : Nat) (x178 : Int), (spec_l15Row.l1 p0 p1 p2 kf x177 x178).bind G6 = some r ∧ l' = [.slice A0p p0.length c0p, .int .i64 p1, .slice A2p p2.length c2p, .int .i64 p3, undef, undef, undef, undef, .slice none 0 0, .slice A177 x177.length c177, getL l' 10, getL l' 11, getL l' 12, .int .i64 p3, .slice A3 [p3].length 1, .slice A2p p2.length c2p, .int .i64 (p2.length : Int), .int .i64 x178, getL l' 18, getL l' 19, getL l' 20, getL l' 21, getL l' 22, getL l' 23, getL l' 24, getL l' 25, getL l' 26, getL l' 27, getL l' 28, getL l' 29, getL l' 30, getL l' 31, getL l' 32, getL l' 33, getL l' 34, getL l' 35, getL l' 36, getL l' 37, getL l' 38, getL l' 39, getL l' 40, getL l' 41, getL l' 42, getL l' 43, getL l' 44, getL l' 45, getL l' 46, getL l' 47, getL l' 48, undef] ∧ Hp sb s F0 s' [Ck.ol OI 3 A177 c177 x177]) ((((p2.length : Int)) - (0)).toNat + 2) ⟨[p3], A3, 1, 0, H, rfl, hH⟩ ?_
    rintro kf l' s222 ⟨x177, A177, c177, x178, H, hl, hH⟩ K222 hK222
    generalize getL l' 10 = j10, getL l' 11 = j11, getL l' 12 = j12, getL l' 18 = j18, getL l' 19 = j19, getL l' 20 = j20, getL l' 21 = j21, getL l' 22 = j22, getL l' 23 = j23, getL l' 24 = j24, getL l' 25 = j25, getL l' 26 = j26, getL l' 27 = j27, getL l' 28 = j28, getL l' 29 = j29, getL l' 30 = j30, getL l' 31 = j31, getL l' 32 = j32, getL l' 33 = j33, getL l' 34 = j34, getL l' 35 = j35, getL l' 36 = j36, getL l' 37 = j37, getL l' 38 = j38, getL l' 39 = j39, getL l' 40 = j40, getL l' 41 = j41, getL l' 42 = j42, getL l' 43 = j43, getL l' 44 = j44, getL l' 45 = j45, getL l' 46 = j46, getL l' 47 = j47, getL l' 48 = j48 at hl
    subst hl
    cases kf with
    | zero => simp [spec_l15Row.l1] at H
    | succ kf =>
      rw [spec_l15Row.l1] at H
      refine HT_seq_k ?_
      intro K223 hK223
      refine HT_region ?_
      refine HL_cons rfl ?_
      refine o_bin rfl rfl rfl ?_
      try dsimp only [putL, setL, evL, getL]
      refine HL_nil ?_
      refine hK223 _ _ ?_
      refine HT_seq_k ?_
      intro K224 hK224
      rcases Bool.eq_false_or_eq_true (decide (x178 < (p2.length : Int))) with hb225 | hb225
      · replace H := iteT hb225 H
        refine HT_true (congrArg Value.bool hb225) ?_
        refine HT_skip ?_
        refine hK224 _ _ ?_
        refine HT_seq_k ?_
        intro K245 hK245
        refine HT_block ?_
        refine HT_seq_k ?_
        intro K246 hK246
        refine HT_region ?_
        refine HL_cons rfl ?_
        refine o_move ?_
        try dsimp only [putL, setL, evL, getL]
        obtain ⟨u247, hu247, H⟩ := headE H
        obtain ⟨b247, o247, cs247, hr247, hh247, hel247⟩ := Rd.elb HRp2 hu247
        obtain rfl := hr247
        refine HL_cons rfl ?_
        refine hel247 s222 rfl rfl Try.underlying22 tI3 ?_
        try dsimp only [putL, setL, evL, getL]
        refine HL_cons rfl ?_
        refine o_load' rfl Try.underlying3 rfl ((hh247 hH.bs.mono) 0 _ rfl) ?_
        try dsimp only [putL, setL, evL, getL]
        refine HL_cons rfl ?_
        refine o_assign ?_
        try dsimp only [putL, setL, evL, getL]
        refine HL_cons rfl ?_
        refine o_assign ?_
        try dsimp only [putL, setL, evL, getL]
        refine HL_nil ?_
        refine hK246 _ _ ?_
        refine HT_seq_k ?_
        intro K248 hK248
        refine HT_region ?_
        refine HL_cons rfl ?_
        refine o_move ?_
        try dsimp only [putL, setL, evL, getL]
        refine HL_cons rfl ?_
        refine o_move ?_
        try dsimp only [putL, setL, evL, getL]
        obtain ⟨u249, hu249, H⟩ := headE H
        obtain ⟨b249, o249, cs249, hr249, hh249, hel249⟩ := Rd.elb HRp0 hu249
        obtain rfl := hr249
        refine HL_cons rfl ?_
        refine hel249 s222 rfl rfl Try.underlying22 tI3 ?_
        try dsimp only [putL, setL, evL, getL]
        refine HL_cons rfl ?_
        refine o_load' rfl Try.underlying3 rfl ((hh249 hH.bs.mono) 0 _ rfl) ?_
        try dsimp only [putL, setL, evL, getL]
        refine HL_cons rfl ?_
        refine o_assign ?_
        try dsimp only [putL, setL, evL, getL]
        refine HL_nil ?_
        refine hK248 _ _ ?_
        refine joinH H fun G250 hG250 H => ?_
        refine HT_joinK (fun l' s' => ∃ (x253 : Int), G250 x253 = some r ∧ l' = [.slice A0p p0.length c0p, .int .i64 p1, .slice A2p p2.length c2p, .int .i64 p3, undef, undef, undef, undef, .slice none 0 0, .slice A177 x177.length c177, .int .i64 x178, .int .i64 u247, .int .i64 x253, .int .i64 p3, .slice A3 [p3].length 1, .slice A2p p2.length c2p, .int .i64 (p2.length : Int), .int .i64 x178, .bool (decide (x178 < (p2.length : Int))), .int .i64 x178, .pointer (some ⟨b247, o247, none⟩), .int .i64 u247, .slice A0p p0.length c0p, .int .i64 x178, .pointer (some ⟨b249, o249, none⟩), .int .i64 u249, getL l' 26, getL l' 27, getL l' 28, getL l' 29, getL l' 30, j31, j32, j33, j34, j35, j36, j37, j38, j39, j40, j41, j42, j43, j44, j45, j46, j47, j48, undef] ∧ Hp sb s F0 s' [Ck.ol OI 3 A177 c177 x177]) ?_ ?_
        · intro K250 hK250
          refine HT_seq_k ?_
          intro K254 hK254
          refine HT_region ?_
          refine HL_cons rfl ?_
          refine o_move ?_
          try dsimp only [putL, setL, evL, getL]
          refine HL_cons rfl ?_
          refine o_move ?_
          try dsimp only [putL, setL, evL, getL]
          refine HL_cons rfl ?_
          refine o_bin rfl rfl rfl ?_
          try dsimp only [putL, setL, evL, getL]
          refine HL_nil ?_
          refine hK254 _ _ ?_
          rcases Bool.eq_false_or_eq_true (u247 != p1) with hb255 | hb255
          · replace H := iteT hb255 H
            refine HT_true (congrArg Value.bool hb255) ?_
            refine HT_region ?_
            refine HL_cons rfl ?_
            refine o_move ?_
            try dsimp only [putL, setL, evL, getL]
            refine HL_cons rfl ?_
            refine o_bin rfl rfl rfl ?_
            try dsimp only [putL, setL, evL, getL]
            refine HL_cons rfl ?_
            refine o_assign ?_
            try dsimp only [putL, setL, evL, getL]
            refine HL_nil ?_
            exact hK250 _ _ ⟨IntKind.i64.wrap (u249 + 1), H, rfl, hH⟩
          · replace H := iteF hb255 H
            refine HT_false (congrArg Value.bool hb255) ?_
            refine HT_skip ?_
            exact hK250 _ _ ⟨u249, H, rfl, hH⟩
        · rintro l' s256 ⟨x253, H, hl, hH⟩
          generalize getL l' 26 = j26, getL l' 27 = j27, getL l' 28 = j28, getL l' 29 = j29, getL l' 30 = j30 at hl
          subst hl
          replace H := hG250 _ H
          try dsimp only at H
          refine HT_seq_k ?_
          intro K257 hK257
          refine HK_draw (fun s' => Gro s256 s') 15 hMix ?_
          have hR := Gro.refl s256
          have hH0 := hH
          refine HK_readP 0 (v := .int .i64 x253) rfl (by kernel_rfl) (fun c l s h => hQp c l s h) rfl (fun s' K hK => ?_) rfl rfl (fun _ => hR) ?_
          · refine o_move ?_
            exact hK
          try dsimp only [putL, setL, evL, getL]
          refine HK_readP 1 (v := .slice A0p p0.length c0p) rfl (by kernel_rfl) (fun c l s h => hQp c l s h) rfl (fun s' K hK => ?_) rfl rfl (fun _ => hR) ?_
          · refine o_move ?_
            exact hK
          try dsimp only [putL, setL, evL, getL]
          refine HK_readP 2 (v := .int .i64 x178) rfl (by kernel_rfl) (fun c l s h => hQp c l s h) rfl (fun s' K hK => ?_) rfl rfl (fun _ => hR) ?_
          · refine o_move ?_
            exact hK
          try dsimp only [putL, setL, evL, getL]
          refine HK_readP 3 (v := .int .i64 (IntKind.i64.wrap (x178 + 1))) rfl (by kernel_rfl) (fun c l s h => hQp c l s h) rfl (fun s' K hK => ?_) rfl rfl (fun _ => hR) ?_
          · refine o_bin rfl rfl rfl ?_
            exact hK
          try dsimp only [putL, setL, evL, getL]
          obtain ⟨u258, hu258, H⟩ := headE H
          obtain ⟨b258, o258, cs258, hr258, hh258, hel258⟩ := Rd.elb HRp0 hu258
          obtain rfl := hr258
          refine HK_readP 4 (v := .pointer (some ⟨b258, o258, none⟩)) rfl (by kernel_rfl) (fun c l s h => hQp c l s h) rfl (fun s' K hK => ?_) rfl rfl (fun _ => hR) ?_
          · refine hel258 s' rfl rfl Try.underlying22 tI3 ?_
            exact hK
          try dsimp only [putL, setL, evL, getL]
          refine HK_read 5 (v := .int .i64 u258) rfl (by kernel_rfl) (fun c l s h => hQp c l s h) rfl (fun s' hR' K hK => ?_) rfl rfl hR ?_
          · refine o_load' rfl Try.underlying3 rfl ((hh258 (hH0.bs.mono.trans hR'.mono)) 0 _ rfl) ?_
            exact hK
          try dsimp only [putL, setL, evL, getL]
          refine HK_readP 6 (v := .slice A177 x177.length c177) rfl (by kernel_rfl) (fun c l s h => hQp c l s h) rfl (fun s' K hK => ?_) rfl rfl (fun _ => hR) ?_
          · refine o_move ?_
            exact hK
          try dsimp only [putL, setL, evL, getL]
          refine HK_readP 7 (v := .int .i64 x178) rfl (by kernel_rfl) (fun c l s h => hQp c l s h) rfl (fun s' K hK => ?_) rfl rfl (fun _ => hR) ?_
          · refine o_move ?_
            exact hK
          try dsimp only [putL, setL, evL, getL]
          obtain ⟨u259, hu259, H⟩ := headE H
          obtain ⟨b259, o259, cs259, hA259, hr259, hh259, hel259⟩ := hH0.elo 0 rfl hu259
          obtain rfl := hr259
          refine HK_readP 8 (v := .pointer (some ⟨b259, o259 + Int.toNat x178 * Kd.sz KI, none⟩)) rfl (by kernel_rfl) (fun c l s h => hQp c l s h) rfl (fun s' K hK => ?_) rfl rfl (fun _ => hR) ?_
          · refine hel259 s' rfl rfl Try.underlying22 tI3 ?_
            exact hK
          try dsimp only [putL, setL, evL, getL]
          refine HK_read 9 (v := .int .i64 u259) rfl (by kernel_rfl) (fun c l s h => hQp c l s h) rfl (fun s' hR' K hK => ?_) rfl rfl hR ?_
          · refine o_load' rfl Try.underlying3 rfl (has_gro hR' (hh259 0 _ rfl)) ?_
            exact hK
          try dsimp only [putL, setL, evL, getL]
          obtain ⟨u260, hu260, H⟩ := headE H
          refine HK_one 10 (by kernel_rfl) rfl (fun _ => hR) rfl ?_
          refine o_call (args := #[.int .i64 u258, .int .i64 u259]) Try.func60 rfl rfl rfl (spec_l1Least.ok sb s256 no u258 u259 (Hp.own hH.bs) _ hu260) ?_
          rintro _ s260 ⟨rfl, hD⟩
          replace hR := hR.trans hD.gro
          replace hH := hH.back0 hD (Up.refl _ _ _)
          clear hD
          dsimp only [addC, setC, rmC, selC, getC] at hH
          try dsimp only [putL, setL, evL, getL]
          refine HK_readP 11 (v := .int .i64 (IntKind.i64.wrap (u260 + 1))) rfl (by kernel_rfl) (fun c l s h => hQp c l s h) rfl (fun s' K hK => ?_) rfl rfl (fun _ => hR) ?_
          · refine o_bin rfl rfl rfl ?_
            exact hK
          try dsimp only [putL, setL, evL, getL]
          obtain ⟨u261, hu261, H⟩ := headE H
          refine HK_one 12 (by kernel_rfl) rfl (fun _ => hR) rfl ?_
          refine o_call (args := #[.int .i64 x253, .int .i64 (IntKind.i64.wrap (u260 + 1))]) Try.func60 rfl rfl rfl (spec_l1Least.ok sb s260 no x253 (IntKind.i64.wrap (u260 + 1)) (Hp.own hH.bs) _ hu261) ?_
          rintro _ s261 ⟨rfl, hD⟩
          replace hR := hR.trans hD.gro
          replace hH := hH.back0 hD (Up.refl _ _ _)
          clear hD
          dsimp only [addC, setC, rmC, selC, getC] at hH
          try dsimp only [putL, setL, evL, getL]
          refine HK_one 13 (by kernel_rfl) rfl (fun _ => hR) rfl ?_
          refine o_assign ?_
          try dsimp only [putL, setL, evL, getL]
          refine HK_done (fun _ => hR) (by kernel_rfl) ?_
          refine hK257 _ _ ?_
          refine HT_region ?_
          refine HL_cons rfl ?_
          refine o_move ?_
          try dsimp only [putL, setL, evL, getL]
          refine HL_cons rfl ?_
          refine o_move ?_
          try dsimp only [putL, setL, evL, getL]
          refine HL_cons rfl ?_
          refine o_litF (K := KI) (O := OI) (ca := #[.int .i64 u261]) [[.int .i64 u261]] [u261] hH Try.underlying22 tI3 rfl (by decide) rfl rfl rfl rfl ⟨rfl, Ent.own (Ent.flat rfl), trivial⟩ ?_
          intro A262 s262 hH' hG
          replace hH : Hp sb s F0 s262 [Ck.ol OI 3 A177 c177 x177, Ck.ol OI 3 A262 1 [u261]] := hH'
          clear hH' hG
          try dsimp only [putL, setL, evL, getL]
          obtain ⟨x263, hx263, H⟩ := headE H
          refine HL_cons rfl ?_
          refine o_appF (K := KI) (n := 17592186044416) (A := A177) (c := c177) (xs := x177) (ys := [u261]) (B := A262) (c2 := 1) hH 0 rfl rfl rfl rfl Try.underlying22 tI3 rfl (by decide) (by decide) (by decide) (Src.flat (hH.rd 1 rfl)) hx263 ?_
          intro A263 c263 s263 hH'
          replace hH : Hp sb s F0 s263 [Ck.ol OI 3 A263 c263 x263, Ck.ol OI 3 A262 1 [u261]] := hH'
          clear hH'
          try dsimp only [putL, setL, evL, getL]
          refine HL_cons rfl ?_
          refine o_assign ?_
          try dsimp only [putL, setL, evL, getL]
          refine HL_nil ?_
          refine hK245 _ _ ?_
          refine HT_region ?_
          refine HL_cons rfl ?_
          refine o_bin rfl rfl rfl ?_
          try dsimp only [putL, setL, evL, getL]
          refine HL_cons rfl ?_
          refine o_move ?_
          try dsimp only [putL, setL, evL, getL]
          refine HL_nil ?_
          exact hK222 _ _ ⟨kf, Nat.lt_succ_self kf, x263, A263, c263, IntKind.i64.wrap (x178 + 1), H, rfl, hH.sel [0] (by decide)⟩
      · replace H := iteF hb225 H
        refine HT_false (congrArg Value.bool hb225) ?_
        refine HT_exit ?_
        exact hK6 _ _ ⟨x177, A177, c177, H, rfl, hH⟩
  · rintro l' s264 ⟨x135, A135, c135, H, hl, hH⟩
    generalize getL l' 10 = j10, getL l' 11 = j11, getL l' 12 = j12, getL l' 17 = j17, getL l' 18 = j18, getL l' 19 = j19, getL l' 20 = j20, getL l' 21 = j21, getL l' 22 = j22, getL l' 23 = j23, getL l' 24 = j24, getL l' 25 = j25, getL l' 26 = j26, getL l' 27 = j27, getL l' 28 = j28, getL l' 29 = j29, getL l' 30 = j30, getL l' 31 = j31, getL l' 32 = j32, getL l' 33 = j33, getL l' 34 = j34, getL l' 35 = j35, getL l' 36 = j36, getL l' 37 = j37, getL l' 38 = j38, getL l' 39 = j39, getL l' 40 = j40, getL l' 41 = j41, getL l' 42 = j42, getL l' 43 = j43, getL l' 44 = j44, getL l' 45 = j45, getL l' 46 = j46, getL l' 47 = j47, getL l' 48 = j48 at hl
    subst hl
    replace H := hG6 _ H
    try dsimp only at H
    refine hK4 _ _ ?_
    refine HT_seq_k ?_
    intro K265 hK265
    refine HT_region ?_
    refine HL_cons rfl ?_
    refine o_move ?_
    try dsimp only [putL, setL, evL, getL]
    refine HL_cons rfl ?_
    refine o_assign ?_
    try dsimp only [putL, setL, evL, getL]
    refine HL_nil ?_
    refine hK265 _ _ ?_
    refine HT_ret ?_
    obtain rfl := Option.some.inj (show some _ = some r from H)
    exact hQr _ _ [.slice A135 x135.length c135] ⟨rfl, trivial⟩ ⟨A135, c135, rfl, hH⟩
def spec_NearEnds.l1 (p0 : List (Int)) (p1 : List (Int)) (p2 : Int) : Nat → (List (Int)) → (List (Int)) → Int → Option (List (Int))
  | 0, _, _, _ => none
  | kf + 1, x229, x230, x231 => if (decide (x231 ≤ (p1.length : Int))) = true then (((if (decide (x231 > 0)) = true then ((rd? p1 (IntKind.i64.wrap (x231 - 1))).bind fun u312 => (spec_l15Row.f x230 u312 p0 0).bind fun u313 => some u313) else (some x230)).bind fun (o : (List (Int))) => match o with | x309 => ((rd? x309 (p0.length : Int)).bind fun u317 => if (decide (u317 ≤ p2)) = true then ((app? 17592186044416 x229 [x231]).bind fun x320 => some (x320, x309)) else (some (x229, x309)))).bind fun (o : (List (Int)) × (List (Int))) => match o with | (x301, x302) => (spec_NearEnds.l1 p0 p1 p2 kf x301 x302 (IntKind.i64.wrap (x231 + 1)))) else (some x229)
def spec_NearEnds.f (p0 : List (Int)) (p1 : List (Int)) (p2 : Int) : Option ((List (Int)) × Bool) := ((spec_l15List.f p0).bind fun u29 => if (!u29) = true then (some true) else ((spec_l15List.f p1).bind fun u31 => if (!u31) = true then (some true) else (if ((p0.length : Int) == 0) = true then (some true) else ((spec_l1In.f p2 0 60).bind fun u34 => some (!u34))))).bind fun (o : Bool) => match o with | x28 => (if x28 = true then (some ([], false)) else ((spec_l15Numbers.f (IntKind.i64.wrap ((p0.length : Int) + 1))).bind fun u40 => (spec_NearEnds.l1 p0 p1 p2 ((((p1.length : Int)) - (0)).toNat + 2) [] u40 0).bind fun (o : (List (Int))) => match o with | x183 => (some (x183, true))))
def spec_NearEnds.post (sb s : St) (F0 : Fp) (r : (List (Int)) × Bool) : Value → St → Prop := fun v s' => ∃ (A0 : Option Addr) (c0 : Nat), v = .tuple #[.slice A0 r.1.length c0, .bool r.2] ∧ Hp sb s F0 s' [Ck.ol OI 3 A0 c0 r.1]
set_option maxRecDepth 100000 in
set_option maxHeartbeats 4000000 in
theorem spec_NearEnds.ok (sb s : St) (F0 : Fp) (A0p : Option Addr) (c0p : Nat) (p0 : List (Int)) (A1p : Option Addr) (c1p : Nat) (p1 : List (Int)) (p2 : Int) (HRp0 : Rd KI sb A0p c0p p0) (HRp1 : Rd KI sb A1p c1p p1) (hH : Hp sb s F0 s []) (r : (List (Int)) × Bool) (H : spec_NearEnds.f p0 p1 p2 = some r) : GCall Try.prog 22 #[.slice A0p p0.length c0p, .slice A1p p1.length c1p, .int .i64 p2] s (spec_NearEnds.post sb s F0 r) := by
  refine GCall_ofk [.tmp 6, .tmp 7] [.slice A0p p0.length c0p, .slice A1p p1.length c1p, .int .i64 p2, undef, undef, undef, undef, undef, undef, undef, undef, undef, undef, undef, undef, undef, undef, undef, undef, undef, undef, undef, undef, undef, undef, undef, undef, undef, undef, undef, undef, undef, undef, undef, undef, undef, undef, undef, undef, undef, undef, undef, undef, undef, undef, undef, undef, undef, undef, undef, undef, undef, undef, undef, undef, undef, undef, undef, undef, undef, undef] Try.func22 rfl rfl rfl ?_
  intro w Q hQr hQn hQp
  replace H := topE H
  unfold spec_NearEnds.f at H
  refine HT_seq_k ?_
  intro K1 hK1
  refine HT_region ?_
  refine HL_cons rfl ?_
  refine o_assign ?_
  try dsimp only [putL, setL, evL, getL]
  refine HL_cons rfl ?_
  refine o_assign ?_
  try dsimp only [putL, setL, evL, getL]
  refine HL_nil ?_
  refine hK1 _ _ ?_
  refine HT_seq_k ?_
  intro K20 hK20
  refine joinH H fun G21 hG21 H => ?_
  refine HT_joinK (fun l' s' => ∃ (x28 : Bool), G21 x28 = some r ∧ l' = [.slice A0p p0.length c0p, .slice A1p p1.length c1p, .int .i64 p2, undef, undef, undef, .slice none 0 0, .bool false, undef, undef, undef, getL l' 11, getL l' 12, getL l' 13, getL l' 14, getL l' 15, getL l' 16, getL l' 17, getL l' 18, getL l' 19, getL l' 20, getL l' 21, getL l' 22, getL l' 23, getL l' 24, getL l' 25, getL l' 26, getL l' 27, .bool x28, undef, undef, undef, undef, undef, undef, undef, undef, undef, undef, undef, undef, undef, undef, undef, undef, undef, undef, undef, undef, undef, undef, undef, undef, undef, undef, undef, undef, undef, undef, undef, undef] ∧ Hp sb s F0 s' []) ?_ ?_
  · intro K21 hK21
    refine HT_region ?_
    refine HL_cons rfl ?_
    refine o_move ?_
    try dsimp only [putL, setL, evL, getL]
    obtain ⟨u29, hu29, H⟩ := headE H
    refine HL_cons rfl ?_
    refine o_call (args := #[.slice A0p p0.length c0p]) Try.func39 rfl rfl rfl (spec_l15List.ok sb s no A0p c0p p0 HRp0 (Hp.own hH.bs) _ hu29) ?_
    rintro _ s29 ⟨rfl, hD⟩
    replace hH := hH.back0 hD (Up.refl _ _ _)
    clear hD
    dsimp only [addC, setC, rmC, selC, getC] at hH
    try dsimp only [putL, setL, evL, getL]
    refine HL_cons rfl ?_
    refine o_not rfl ?_
    try dsimp only [putL, setL, evL, getL]
    refine HL_cons rfl ?_
    refine o_move ?_
    try dsimp only [putL, setL, evL, getL]
    rcases Bool.eq_false_or_eq_true (!u29) with hb30 | hb30
    · replace H := iteT hb30 H
      refine HL_skip ?_ ?_
      · exact wantF (j := 3) (b := false) (t := 14) (c := !u29) rfl rfl rfl rfl hb30
      try dsimp only [putL, setL, evL, getL]
      refine HL_skip ?_ ?_
      · exact wantF (j := 3) (b := false) (t := 14) (c := !u29) rfl rfl rfl rfl hb30
      try dsimp only [putL, setL, evL, getL]
      refine HL_skip ?_ ?_
      · exact wantF (j := 3) (b := false) (t := 14) (c := !u29) rfl rfl rfl rfl hb30
      try dsimp only [putL, setL, evL, getL]
      refine HL_cons rfl ?_
      refine o_pickT rfl hb30 ?_
      try dsimp only [putL, setL, evL, getL]
      refine HL_cons rfl ?_
      refine o_move ?_
      try dsimp only [putL, setL, evL, getL]
      refine HL_skip ?_ ?_
      · exact wantF (j := 8) (b := false) (t := 19) (c := true) rfl rfl rfl rfl rfl
      try dsimp only [putL, setL, evL, getL]
      refine HL_skip ?_ ?_
      · exact wantF (j := 8) (b := false) (t := 19) (c := true) rfl rfl rfl rfl rfl
      try dsimp only [putL, setL, evL, getL]
      refine HL_skip ?_ ?_
      · exact wantF (j := 8) (b := false) (t := 19) (c := true) rfl rfl rfl rfl rfl
      try dsimp only [putL, setL, evL, getL]
      refine HL_cons rfl ?_
      refine o_pickT rfl rfl ?_
      try dsimp only [putL, setL, evL, getL]
      refine HL_cons rfl ?_
      refine o_move ?_
      try dsimp only [putL, setL, evL, getL]
      refine HL_skip ?_ ?_
      · exact wantF (j := 13) (b := false) (t := 24) (c := true) rfl rfl rfl rfl rfl
      try dsimp only [putL, setL, evL, getL]
      refine HL_skip ?_ ?_
      · exact wantF (j := 13) (b := false) (t := 24) (c := true) rfl rfl rfl rfl rfl
      try dsimp only [putL, setL, evL, getL]
      refine HL_skip ?_ ?_
      · exact wantF (j := 13) (b := false) (t := 24) (c := true) rfl rfl rfl rfl rfl
      try dsimp only [putL, setL, evL, getL]
      refine HL_cons rfl ?_
      refine o_pickT rfl rfl ?_
      try dsimp only [putL, setL, evL, getL]
      refine HL_nil ?_
      exact hK21 _ _ ⟨true, H, rfl, hH⟩
    · replace H := iteF hb30 H
      refine HL_want ?_ ?_
      · exact wantT (j := 3) (b := false) (t := 14) (c := !u29) rfl rfl rfl rfl hb30
      refine o_move ?_
      try dsimp only [putL, setL, evL, getL]
      obtain ⟨u31, hu31, H⟩ := headE H
      refine HL_want ?_ ?_
      · exact wantT (j := 3) (b := false) (t := 14) (c := !u29) rfl rfl rfl rfl hb30
      refine o_call (args := #[.slice A1p p1.length c1p]) Try.func39 rfl rfl rfl (spec_l15List.ok sb s29 no A1p c1p p1 HRp1 (Hp.own hH.bs) _ hu31) ?_
      rintro _ s31 ⟨rfl, hD⟩
      replace hH := hH.back0 hD (Up.refl _ _ _)
      clear hD
      dsimp only [addC, setC, rmC, selC, getC] at hH
      try dsimp only [putL, setL, evL, getL]
      refine HL_want ?_ ?_
      · exact wantT (j := 3) (b := false) (t := 14) (c := !u29) rfl rfl rfl rfl hb30
      refine o_not rfl ?_
      try dsimp only [putL, setL, evL, getL]
      refine HL_cons rfl ?_
      refine o_pickF rfl hb30 ?_
      try dsimp only [putL, setL, evL, getL]
      refine HL_cons rfl ?_
      refine o_move ?_
      try dsimp only [putL, setL, evL, getL]
      rcases Bool.eq_false_or_eq_true (!u31) with hb32 | hb32
      · replace H := iteT hb32 H
        refine HL_skip ?_ ?_
        · exact wantF (j := 8) (b := false) (t := 19) (c := !u31) rfl rfl rfl rfl hb32
        try dsimp only [putL, setL, evL, getL]
        refine HL_skip ?_ ?_
        · exact wantF (j := 8) (b := false) (t := 19) (c := !u31) rfl rfl rfl rfl hb32
        try dsimp only [putL, setL, evL, getL]
        refine HL_skip ?_ ?_
        · exact wantF (j := 8) (b := false) (t := 19) (c := !u31) rfl rfl rfl rfl hb32
        try dsimp only [putL, setL, evL, getL]
        refine HL_cons rfl ?_
        refine o_pickT rfl hb32 ?_
        try dsimp only [putL, setL, evL, getL]
        refine HL_cons rfl ?_
        refine o_move ?_
        try dsimp only [putL, setL, evL, getL]
        refine HL_skip ?_ ?_
        · exact wantF (j := 13) (b := false) (t := 24) (c := true) rfl rfl rfl rfl rfl
        try dsimp only [putL, setL, evL, getL]
        refine HL_skip ?_ ?_
        · exact wantF (j := 13) (b := false) (t := 24) (c := true) rfl rfl rfl rfl rfl
        try dsimp only [putL, setL, evL, getL]
        refine HL_skip ?_ ?_
        · exact wantF (j := 13) (b := false) (t := 24) (c := true) rfl rfl rfl rfl rfl
        try dsimp only [putL, setL, evL, getL]
        refine HL_cons rfl ?_
        refine o_pickT rfl rfl ?_
        try dsimp only [putL, setL, evL, getL]
        refine HL_nil ?_
        exact hK21 _ _ ⟨true, H, rfl, hH⟩
      · replace H := iteF hb32 H
        refine HL_want ?_ ?_
        · exact wantT (j := 8) (b := false) (t := 19) (c := !u31) rfl rfl rfl rfl hb32
        refine o_move ?_
        try dsimp only [putL, setL, evL, getL]
        refine HL_want ?_ ?_
        · exact wantT (j := 8) (b := false) (t := 19) (c := !u31) rfl rfl rfl rfl hb32
        refine o_len rfl Try.underlying22 ?_
        try dsimp only [putL, setL, evL, getL]
        refine HL_want ?_ ?_
        · exact wantT (j := 8) (b := false) (t := 19) (c := !u31) rfl rfl rfl rfl hb32
        refine o_bin rfl rfl rfl ?_
        try dsimp only [putL, setL, evL, getL]
        refine HL_cons rfl ?_
        refine o_pickF rfl hb32 ?_
        try dsimp only [putL, setL, evL, getL]
        refine HL_cons rfl ?_
        refine o_move ?_
        try dsimp only [putL, setL, evL, getL]
        rcases Bool.eq_false_or_eq_true ((p0.length : Int) == 0) with hb33 | hb33
        · replace H := iteT hb33 H
          refine HL_skip ?_ ?_
          · exact wantF (j := 13) (b := false) (t := 24) (c := (p0.length : Int) == 0) rfl rfl rfl rfl hb33
          try dsimp only [putL, setL, evL, getL]
          refine HL_skip ?_ ?_
          · exact wantF (j := 13) (b := false) (t := 24) (c := (p0.length : Int) == 0) rfl rfl rfl rfl hb33
          try dsimp only [putL, setL, evL, getL]
          refine HL_skip ?_ ?_
          · exact wantF (j := 13) (b := false) (t := 24) (c := (p0.length : Int) == 0) rfl rfl rfl rfl hb33
          try dsimp only [putL, setL, evL, getL]
          refine HL_cons rfl ?_
          refine o_pickT rfl hb33 ?_
          try dsimp only [putL, setL, evL, getL]
          refine HL_nil ?_
          exact hK21 _ _ ⟨true, H, rfl, hH⟩
        · replace H := iteF hb33 H
          refine HL_want ?_ ?_
          · exact wantT (j := 13) (b := false) (t := 24) (c := (p0.length : Int) == 0) rfl rfl rfl rfl hb33
          refine o_move ?_
          try dsimp only [putL, setL, evL, getL]
          obtain ⟨u34, hu34, H⟩ := headE H
          refine HL_want ?_ ?_
          · exact wantT (j := 13) (b := false) (t := 24) (c := (p0.length : Int) == 0) rfl rfl rfl rfl hb33
          refine o_call (args := #[.int .i64 p2, .int .i64 0, .int .i64 60]) Try.func31 rfl rfl rfl (spec_l1In.ok sb s31 no p2 0 60 (Hp.own hH.bs) _ hu34) ?_
          rintro _ s34 ⟨rfl, hD⟩
          replace hH := hH.back0 hD (Up.refl _ _ _)
          clear hD
          dsimp only [addC, setC, rmC, selC, getC] at hH
          try dsimp only [putL, setL, evL, getL]
          refine HL_want ?_ ?_
          · exact wantT (j := 13) (b := false) (t := 24) (c := (p0.length : Int) == 0) rfl rfl rfl rfl hb33
          refine o_not rfl ?_
          try dsimp only [putL, setL, evL, getL]
          refine HL_cons rfl ?_
          refine o_pickF rfl hb33 ?_
          try dsimp only [putL, setL, evL, getL]
          refine HL_nil ?_
          exact hK21 _ _ ⟨!u34, H, rfl, hH⟩
  · rintro l' s35 ⟨x28, H, hl, hH⟩
    generalize getL l' 11 = j11, getL l' 12 = j12, getL l' 13 = j13, getL l' 14 = j14, getL l' 15 = j15, getL l' 16 = j16, getL l' 17 = j17, getL l' 18 = j18, getL l' 19 = j19, getL l' 20 = j20, getL l' 21 = j21, getL l' 22 = j22, getL l' 23 = j23, getL l' 24 = j24, getL l' 25 = j25, getL l' 26 = j26, getL l' 27 = j27 at hl
    subst hl
    replace H := hG21 _ H
    try dsimp only at H
    rcases Bool.eq_false_or_eq_true x28 with hb36 | hb36
    · replace H := iteT hb36 H
      refine HT_true (congrArg Value.bool hb36) ?_
      refine HT_seq_k ?_
      intro K37 hK37
      refine HT_region ?_
      refine HL_cons rfl ?_
      refine o_assign ?_
      try dsimp only [putL, setL, evL, getL]
      refine HL_cons rfl ?_
      refine o_assign ?_
      try dsimp only [putL, setL, evL, getL]
      refine HL_nil ?_
      refine hK37 _ _ ?_
      refine HT_ret ?_
      obtain rfl := Option.some.inj (show some _ = some r from H)
      exact hQr _ _ [.slice none 0 0, .bool false] ⟨rfl, rfl, trivial⟩ ⟨none, 0, rfl, (hH.nil (K := KI) OI 3)⟩
    · replace H := iteF hb36 H
      refine HT_false (congrArg Value.bool hb36) ?_
      refine HT_skip ?_
      refine hK20 _ _ ?_
      refine HT_seq_k ?_
      intro K38 hK38
      refine HT_region ?_
      refine HL_cons rfl ?_
      refine o_assign ?_
      try dsimp only [putL, setL, evL, getL]
      refine HL_nil ?_
      refine hK38 _ _ ?_
      refine HT_seq_k ?_
      intro K39 hK39
      refine HT_region ?_
      refine HL_cons rfl ?_
      refine o_move ?_
      try dsimp only [putL, setL, evL, getL]
      refine HL_cons rfl ?_
      refine o_len rfl Try.underlying22 ?_
      try dsimp only [putL, setL, evL, getL]
      refine HL_cons rfl ?_
      refine o_bin rfl rfl rfl ?_
      try dsimp only [putL, setL, evL, getL]
      obtain ⟨u40, hu40, H⟩ := headE H
      refine HL_cons rfl ?_
      refine o_call (args := #[.int .i64 (IntKind.i64.wrap ((p0.length : Int) + 1))]) Try.func45 rfl rfl rfl (spec_l15Numbers.ok sb s35 no (IntKind.i64.wrap ((p0.length : Int) + 1)) (Hp.own hH.bs) _ hu40) ?_
      rintro _ s40 ⟨A41, c41, rfl, hD⟩
      replace hH := hH.back0 hD (Up.refl _ _ _)
      clear hD
      dsimp only [addC, setC, rmC, selC, getC] at hH
      try dsimp only [putL, setL, evL, getL]
      refine HL_cons rfl ?_
      refine o_assign ?_
      try dsimp only [putL, setL, evL, getL]
      refine HL_nil ?_
      refine hK39 _ _ ?_
      refine HT_seq_k ?_
      intro K42 hK42
      refine HT_seq_k ?_
      intro K43 hK43
      refine HT_region ?_
      refine HL_cons rfl ?_
      refine o_assign ?_
      try dsimp only [putL, setL, evL, getL]
      refine HL_nil ?_
      refine hK43 _ _ ?_
      refine joinH H fun G44 hG44 H => ?_
      refine HT_toK (fun l' s' => ∃ (x183 : List (Int)) (A183 : Option Addr) (c183 : Nat), G44 x183 = some r ∧ l' = [.slice A0p p0.length c0p, .slice A1p p1.length c1p, .int .i64 p2, undef, undef, undef, .slice none 0 0, .bool false, .slice A183 x183.length c183, getL l' 9, getL l' 10, j11, j12, j13, j14, j15, j16, j17, j18, j19, j20, j21, j22, j23, j24, j25, j26, j27, .bool x28, .slice A0p p0.length c0p, .int .i64 (p0.length : Int), .int .i64 (IntKind.i64.wrap ((p0.length : Int) + 1)), .slice A41 u40.length c41, getL l' 33, getL l' 34, getL l' 35, getL l' 36, getL l' 37, getL l' 38, getL l' 39, getL l' 40, getL l' 41, getL l' 42, getL l' 43, getL l' 44, getL l' 45, getL l' 46, getL l' 47, getL l' 48, getL l' 49, getL l' 50, getL l' 51, getL l' 52, getL l' 53, getL l' 54, getL l' 55, getL l' 56, getL l' 57, getL l' 58, getL l' 59, undef] ∧ Hp sb s F0 s' [Ck.ol OI 3 A183 c183 x183]) ?_ ?_
      · intro K44 hK44
        refine HT_block ?_
        refine HT_loopK (fun kf l' s' => ∃ (x229 : List (Int)) (A229 : Option Addr) (c229 : Nat) (x230 : List (Int)) (A230 : Option Addr) (c230 : Nat) (x231 : Int), (spec_NearEnds.l1 p0 p1 p2 kf x229 x230 x231).bind G44 = some r ∧ l' = [.slice A0p p0.length c0p, .slice A1p p1.length c1p, .int .i64 p2, undef, undef, undef, .slice none 0 0, .bool false, .slice A229 x229.length c229, .slice A230 x230.length c230, .int .i64 x231, j11, j12, j13, j14, j15, j16, j17, j18, j19, j20, j21, j22, j23, j24, j25, j26, j27, .bool x28, .slice A0p p0.length c0p, .int .i64 (p0.length : Int), .int .i64 (IntKind.i64.wrap ((p0.length : Int) + 1)), .slice A41 u40.length c41, getL l' 33, getL l' 34, getL l' 35, getL l' 36, getL l' 37, getL l' 38, getL l' 39, getL l' 40, getL l' 41, getL l' 42, getL l' 43, getL l' 44, getL l' 45, getL l' 46, getL l' 47, getL l' 48, getL l' 49, getL l' 50, getL l' 51, getL l' 52, getL l' 53, getL l' 54, getL l' 55, getL l' 56, getL l' 57, getL l' 58, getL l' 59, undef] ∧ Hp sb s F0 s' [Ck.ol OI 3 A229 c229 x229, Ck.ol OI 3 A230 c230 x230]) ((((p1.length : Int)) - (0)).toNat + 2) ⟨[], none, 0, u40, A41, c41, 0, H, rfl, (hH.nil (K := KI) OI 3).sel [1, 0] (by decide)⟩ ?_
        rintro kf l' s278 ⟨x229, A229, c229, x230, A230, c230, x231, H, hl, hH⟩ K278 hK278
        generalize getL l' 33 = j33, getL l' 34 = j34, getL l' 35 = j35, getL l' 36 = j36, getL l' 37 = j37, getL l' 38 = j38, getL l' 39 = j39, getL l' 40 = j40, getL l' 41 = j41, getL l' 42 = j42, getL l' 43 = j43, getL l' 44 = j44, getL l' 45 = j45, getL l' 46 = j46, getL l' 47 = j47, getL l' 48 = j48, getL l' 49 = j49, getL l' 50 = j50, getL l' 51 = j51, getL l' 52 = j52, getL l' 53 = j53, getL l' 54 = j54, getL l' 55 = j55, getL l' 56 = j56, getL l' 57 = j57, getL l' 58 = j58, getL l' 59 = j59 at hl
        subst hl
        cases kf with
        | zero => simp [spec_NearEnds.l1] at H
        | succ kf =>
          rw [spec_NearEnds.l1] at H
          refine HT_seq_k ?_
          intro K279 hK279
          refine HT_seq_k ?_
          intro K280 hK280
          refine HT_region ?_
          refine HL_cons rfl ?_
          refine o_move ?_
          try dsimp only [putL, setL, evL, getL]
          refine HL_cons rfl ?_
          refine o_move ?_
          try dsimp only [putL, setL, evL, getL]
          refine HL_cons rfl ?_
          refine o_len rfl Try.underlying22 ?_
          try dsimp only [putL, setL, evL, getL]
          refine HL_cons rfl ?_
          refine o_bin rfl rfl rfl ?_
          try dsimp only [putL, setL, evL, getL]
          refine HL_nil ?_
          refine hK280 _ _ ?_
          rcases Bool.eq_false_or_eq_true (decide (x231 ≤ (p1.length : Int))) with hb281 | hb281
          · replace H := iteT hb281 H
            refine HT_true (congrArg Value.bool hb281) ?_
            refine HT_skip ?_
            refine hK279 _ _ ?_
            refine joinH H fun G282 hG282 H => ?_
            refine HT_joinK (fun l' s' => ∃ (x301 : List (Int)) (A301 : Option Addr) (c301 : Nat) (x302 : List (Int)) (A302 : Option Addr) (c302 : Nat), G282 (x301, x302) = some r ∧ l' = [.slice A0p p0.length c0p, .slice A1p p1.length c1p, .int .i64 p2, undef, undef, undef, .slice none 0 0, .bool false, .slice A301 x301.length c301, .slice A302 x302.length c302, .int .i64 x231, j11, j12, j13, j14, j15, j16, j17, j18, j19, j20, j21, j22, j23, j24, j25, j26, j27, .bool x28, .slice A0p p0.length c0p, .int .i64 (p0.length : Int), .int .i64 (IntKind.i64.wrap ((p0.length : Int) + 1)), .slice A41 u40.length c41, .int .i64 x231, .slice A1p p1.length c1p, .int .i64 (p1.length : Int), .bool (decide (x231 ≤ (p1.length : Int))), j37, j38, getL l' 39, getL l' 40, getL l' 41, getL l' 42, getL l' 43, getL l' 44, getL l' 45, getL l' 46, getL l' 47, getL l' 48, getL l' 49, getL l' 50, getL l' 51, getL l' 52, getL l' 53, getL l' 54, getL l' 55, getL l' 56, getL l' 57, getL l' 58, getL l' 59, undef] ∧ Hp sb s F0 s' [Ck.ol OI 3 A301 c301 x301, Ck.ol OI 3 A302 c302 x302]) ?_ ?_
            · intro K282 hK282
              refine HT_block ?_
              refine joinH H fun G303 hG303 H => ?_
              refine HT_joinK (fun l' s' => ∃ (x309 : List (Int)) (A309 : Option Addr) (c309 : Nat), G303 x309 = some r ∧ l' = [.slice A0p p0.length c0p, .slice A1p p1.length c1p, .int .i64 p2, undef, undef, undef, .slice none 0 0, .bool false, .slice A229 x229.length c229, .slice A309 x309.length c309, .int .i64 x231, j11, j12, j13, j14, j15, j16, j17, j18, j19, j20, j21, j22, j23, j24, j25, j26, j27, .bool x28, .slice A0p p0.length c0p, .int .i64 (p0.length : Int), .int .i64 (IntKind.i64.wrap ((p0.length : Int) + 1)), .slice A41 u40.length c41, .int .i64 x231, .slice A1p p1.length c1p, .int .i64 (p1.length : Int), .bool (decide (x231 ≤ (p1.length : Int))), j37, j38, getL l' 39, getL l' 40, getL l' 41, getL l' 42, getL l' 43, getL l' 44, getL l' 45, getL l' 46, getL l' 47, getL l' 48, j49, j50, j51, j52, j53, j54, j55, j56, j57, j58, j59, undef] ∧ Hp sb s F0 s' [Ck.ol OI 3 A309 c309 x309, Ck.ol OI 3 A229 c229 x229]) ?_ ?_
              · intro K303 hK303
                refine HT_seq_k ?_
                intro K310 hK310
                refine HT_region ?_
                refine HL_cons rfl ?_
                refine o_move ?_
                try dsimp only [putL, setL, evL, getL]
                refine HL_cons rfl ?_
                refine o_bin rfl rfl rfl ?_
                try dsimp only [putL, setL, evL, getL]
                refine HL_nil ?_
                refine hK310 _ _ ?_
                rcases Bool.eq_false_or_eq_true (decide (x231 > 0)) with hb311 | hb311
                · replace H := iteT hb311 H
                  refine HT_true (congrArg Value.bool hb311) ?_
                  refine HT_region ?_
                  refine HL_cons rfl ?_
                  refine o_move ?_
                  try dsimp only [putL, setL, evL, getL]
                  refine HL_cons rfl ?_
                  refine o_move ?_
                  try dsimp only [putL, setL, evL, getL]
                  refine HL_cons rfl ?_
                  refine o_move ?_
                  try dsimp only [putL, setL, evL, getL]
                  refine HL_cons rfl ?_
                  refine o_bin rfl rfl rfl ?_
                  try dsimp only [putL, setL, evL, getL]
                  obtain ⟨u312, hu312, H⟩ := headE H
                  obtain ⟨b312, o312, cs312, hr312, hh312, hel312⟩ := Rd.elb HRp1 hu312
                  obtain rfl := hr312
                  refine HL_cons rfl ?_
                  refine hel312 s278 rfl rfl Try.underlying22 tI3 ?_
                  try dsimp only [putL, setL, evL, getL]
                  refine HL_cons rfl ?_
                  refine o_load' rfl Try.underlying3 rfl ((hh312 hH.bs.mono) 0 _ rfl) ?_
                  try dsimp only [putL, setL, evL, getL]
                  refine HL_cons rfl ?_
                  refine o_move ?_
                  try dsimp only [putL, setL, evL, getL]
                  obtain ⟨u313, hu313, H⟩ := headE H
                  refine HL_cons rfl ?_
                  refine o_call (args := #[.slice A230 x230.length c230, .int .i64 u312, .slice A0p p0.length c0p, .int .i64 0]) Try.func46 rfl rfl rfl (spec_l15Row.ok s278 s278 no A230 c230 x230 u312 A0p c0p p0 0 (hH.rd 1 rfl) (HRp0.mono hH.bs.mono) (Hp.own (Bs.refl s278)) _ hu313) ?_
                  rintro _ s313 ⟨A314, c314, rfl, hD⟩
                  replace hH := hH.back0T hD
                  clear hD
                  dsimp only [addC, setC, rmC, selC, getC] at hH
                  try dsimp only [putL, setL, evL, getL]
                  refine HL_cons rfl ?_
                  refine o_assign ?_
                  try dsimp only [putL, setL, evL, getL]
                  refine HL_nil ?_
                  exact hK303 _ _ ⟨u313, A314, c314, H, rfl, hH.sel [2, 0] (by decide)⟩
                · replace H := iteF hb311 H
                  refine HT_false (congrArg Value.bool hb311) ?_
                  refine HT_skip ?_
                  exact hK303 _ _ ⟨x230, A230, c230, H, rfl, hH.sel [1, 0] (by decide)⟩
              · rintro l' s315 ⟨x309, A309, c309, H, hl, hH⟩
                generalize getL l' 39 = j39, getL l' 40 = j40, getL l' 41 = j41, getL l' 42 = j42, getL l' 43 = j43, getL l' 44 = j44, getL l' 45 = j45, getL l' 46 = j46, getL l' 47 = j47, getL l' 48 = j48 at hl
                subst hl
                replace H := hG303 _ H
                try dsimp only at H
                refine HT_seq_k ?_
                intro K316 hK316
                refine HT_region ?_
                refine HL_cons rfl ?_
                refine o_move ?_
                try dsimp only [putL, setL, evL, getL]
                refine HL_cons rfl ?_
                refine o_move ?_
                try dsimp only [putL, setL, evL, getL]
                refine HL_cons rfl ?_
                refine o_len rfl Try.underlying22 ?_
                try dsimp only [putL, setL, evL, getL]
                obtain ⟨u317, hu317, H⟩ := headE H
                obtain ⟨b317, o317, cs317, hA317, hr317, hh317, hel317⟩ := hH.elo 0 rfl hu317
                obtain rfl := hr317
                refine HL_cons rfl ?_
                refine hel317 s315 rfl rfl Try.underlying22 tI3 ?_
                try dsimp only [putL, setL, evL, getL]
                refine HL_cons rfl ?_
                refine o_load' rfl Try.underlying3 rfl (hh317 0 _ rfl) ?_
                try dsimp only [putL, setL, evL, getL]
                refine HL_cons rfl ?_
                refine o_move ?_
                try dsimp only [putL, setL, evL, getL]
                refine HL_cons rfl ?_
                refine o_bin rfl rfl rfl ?_
                try dsimp only [putL, setL, evL, getL]
                refine HL_nil ?_
                refine hK316 _ _ ?_
                rcases Bool.eq_false_or_eq_true (decide (u317 ≤ p2)) with hb318 | hb318
                · replace H := iteT hb318 H
                  refine HT_true (congrArg Value.bool hb318) ?_
                  refine HT_region ?_
                  refine HL_cons rfl ?_
                  refine o_move ?_
                  try dsimp only [putL, setL, evL, getL]
                  refine HL_cons rfl ?_
                  refine o_move ?_
                  try dsimp only [putL, setL, evL, getL]
                  refine HL_cons rfl ?_
                  refine o_litF (K := KI) (O := OI) (ca := #[.int .i64 x231]) [[.int .i64 x231]] [x231] hH Try.underlying22 tI3 rfl (by decide) rfl rfl rfl rfl ⟨rfl, Ent.own (Ent.flat rfl), trivial⟩ ?_
                  intro A319 s319 hH' hG
                  replace hH : Hp sb s F0 s319 [Ck.ol OI 3 A309 c309 x309, Ck.ol OI 3 A229 c229 x229, Ck.ol OI 3 A319 1 [x231]] := hH'
                  clear hH' hG
                  try dsimp only [putL, setL, evL, getL]
                  obtain ⟨x320, hx320, H⟩ := headE H
                  refine HL_cons rfl ?_
                  refine o_appF (K := KI) (n := 17592186044416) (A := A229) (c := c229) (xs := x229) (ys := [x231]) (B := A319) (c2 := 1) hH 1 rfl rfl rfl rfl Try.underlying22 tI3 rfl (by decide) (by decide) (by decide) (Src.flat (hH.rd 2 rfl)) hx320 ?_
                  intro A320 c320 s320 hH'
                  replace hH : Hp sb s F0 s320 [Ck.ol OI 3 A309 c309 x309, Ck.ol OI 3 A320 c320 x320, Ck.ol OI 3 A319 1 [x231]] := hH'
                  clear hH'
                  try dsimp only [putL, setL, evL, getL]
                  refine HL_cons rfl ?_
                  refine o_assign ?_
                  try dsimp only [putL, setL, evL, getL]
                  refine HL_nil ?_
                  exact hK282 _ _ ⟨x320, A320, c320, x309, A309, c309, H, rfl, hH.sel [1, 0] (by decide)⟩
                · replace H := iteF hb318 H
                  refine HT_false (congrArg Value.bool hb318) ?_
                  refine HT_skip ?_
                  exact hK282 _ _ ⟨x229, A229, c229, x309, A309, c309, H, rfl, hH.sel [1, 0] (by decide)⟩
            · rintro l' s321 ⟨x301, A301, c301, x302, A302, c302, H, hl, hH⟩
              generalize getL l' 39 = j39, getL l' 40 = j40, getL l' 41 = j41, getL l' 42 = j42, getL l' 43 = j43, getL l' 44 = j44, getL l' 45 = j45, getL l' 46 = j46, getL l' 47 = j47, getL l' 48 = j48, getL l' 49 = j49, getL l' 50 = j50, getL l' 51 = j51, getL l' 52 = j52, getL l' 53 = j53, getL l' 54 = j54, getL l' 55 = j55, getL l' 56 = j56, getL l' 57 = j57, getL l' 58 = j58, getL l' 59 = j59 at hl
              subst hl
              replace H := hG282 _ H
              try dsimp only at H
              refine HT_region ?_
              refine HL_cons rfl ?_
              refine o_move ?_
              try dsimp only [putL, setL, evL, getL]
              refine HL_cons rfl ?_
              refine o_bin rfl rfl rfl ?_
              try dsimp only [putL, setL, evL, getL]
              refine HL_cons rfl ?_
              refine o_assign ?_
              try dsimp only [putL, setL, evL, getL]
              refine HL_nil ?_
              exact hK278 _ _ ⟨kf, Nat.lt_succ_self kf, x301, A301, c301, x302, A302, c302, IntKind.i64.wrap (x231 + 1), H, rfl, hH⟩
          · replace H := iteF hb281 H
            refine HT_false (congrArg Value.bool hb281) ?_
            refine HT_exit ?_
            exact hK44 _ _ ⟨x229, A229, c229, H, rfl, hH.sel [0] (by decide)⟩
      · rintro l' s322 ⟨x183, A183, c183, H, hl, hH⟩
        generalize getL l' 9 = j9, getL l' 10 = j10, getL l' 33 = j33, getL l' 34 = j34, getL l' 35 = j35, getL l' 36 = j36, getL l' 37 = j37, getL l' 38 = j38, getL l' 39 = j39, getL l' 40 = j40, getL l' 41 = j41, getL l' 42 = j42, getL l' 43 = j43, getL l' 44 = j44, getL l' 45 = j45, getL l' 46 = j46, getL l' 47 = j47, getL l' 48 = j48, getL l' 49 = j49, getL l' 50 = j50, getL l' 51 = j51, getL l' 52 = j52, getL l' 53 = j53, getL l' 54 = j54, getL l' 55 = j55, getL l' 56 = j56, getL l' 57 = j57, getL l' 58 = j58, getL l' 59 = j59 at hl
        subst hl
        replace H := hG44 _ H
        try dsimp only at H
        refine hK42 _ _ ?_
        refine HT_seq_k ?_
        intro K323 hK323
        refine HT_region ?_
        refine HL_cons rfl ?_
        refine o_move ?_
        try dsimp only [putL, setL, evL, getL]
        refine HL_cons rfl ?_
        refine o_assign ?_
        try dsimp only [putL, setL, evL, getL]
        refine HL_cons rfl ?_
        refine o_assign ?_
        try dsimp only [putL, setL, evL, getL]
        refine HL_nil ?_
        refine hK323 _ _ ?_
        refine HT_ret ?_
        obtain rfl := Option.some.inj (show some _ = some r from H)
        exact hQr _ _ [.slice A183 x183.length c183, .bool true] ⟨rfl, rfl, trivial⟩ ⟨A183, c183, rfl, hH⟩
def impl_inRange.f (p0 : Int) (p1 : Int) (p2 : Int) : Option Bool := if (decide (p1 ≤ p0)) = true then (some (decide (p0 ≤ p2))) else (some false)
def impl_inRange.post (sb s : St) (F0 : Fp) (r : Bool) : Value → St → Prop := fun v s' => v = .bool r ∧ Hp sb s F0 s' []
set_option maxRecDepth 100000 in
set_option maxHeartbeats 4000000 in
theorem impl_inRange.ok (sb s : St) (F0 : Fp) (p0 : Int) (p1 : Int) (p2 : Int) (hH : Hp sb s F0 s []) (r : Bool) (H : impl_inRange.f p0 p1 p2 = some r) : GCall Try.prog 34 #[.int .i64 p0, .int .i64 p1, .int .i64 p2] s (impl_inRange.post sb s F0 r) := by
  refine GCall_ofk [.tmp 6] [.int .i64 p0, .int .i64 p1, .int .i64 p2, undef, undef, undef, undef, undef, undef, undef, undef, undef, undef, undef, undef] Try.func34 rfl rfl rfl ?_
  intro w Q hQr hQn hQp
  replace H := topE H
  unfold impl_inRange.f at H
  refine HT_seq_k ?_
  intro K1 hK1
  refine HT_region ?_
  refine HL_cons rfl ?_
  refine o_assign ?_
  try dsimp only [putL, setL, evL, getL]
  refine HL_nil ?_
  refine hK1 _ _ ?_
  refine HT_seq_k ?_
  intro K2 hK2
  refine HT_region ?_
  refine HL_cons rfl ?_
  refine o_move ?_
  try dsimp only [putL, setL, evL, getL]
  refine HL_cons rfl ?_
  refine o_move ?_
  try dsimp only [putL, setL, evL, getL]
  refine HL_cons rfl ?_
  refine o_bin rfl rfl rfl ?_
  try dsimp only [putL, setL, evL, getL]
  refine HL_cons rfl ?_
  refine o_move ?_
  try dsimp only [putL, setL, evL, getL]
  rcases Bool.eq_false_or_eq_true (decide (p1 ≤ p0)) with hb3 | hb3
  · replace H := iteT hb3 H
    refine HL_want ?_ ?_
    · exact wantT (j := 3) (b := true) (t := 10) (c := decide (p1 ≤ p0)) rfl rfl rfl rfl hb3
    refine o_move ?_
    try dsimp only [putL, setL, evL, getL]
    refine HL_want ?_ ?_
    · exact wantT (j := 3) (b := true) (t := 10) (c := decide (p1 ≤ p0)) rfl rfl rfl rfl hb3
    refine o_move ?_
    try dsimp only [putL, setL, evL, getL]
    refine HL_want ?_ ?_
    · exact wantT (j := 3) (b := true) (t := 10) (c := decide (p1 ≤ p0)) rfl rfl rfl rfl hb3
    refine o_bin rfl rfl rfl ?_
    try dsimp only [putL, setL, evL, getL]
    refine HL_cons rfl ?_
    refine o_pickT rfl hb3 ?_
    try dsimp only [putL, setL, evL, getL]
    refine HL_cons rfl ?_
    refine o_assign ?_
    try dsimp only [putL, setL, evL, getL]
    refine HL_nil ?_
    refine hK2 _ _ ?_
    refine HT_ret ?_
    obtain rfl := Option.some.inj (show some _ = some r from H)
    exact hQr _ _ [.bool (decide (p0 ≤ p2))] ⟨rfl, trivial⟩ ⟨rfl, hH⟩
  · replace H := iteF hb3 H
    refine HL_skip ?_ ?_
    · exact wantF (j := 3) (b := true) (t := 10) (c := decide (p1 ≤ p0)) rfl rfl rfl rfl hb3
    try dsimp only [putL, setL, evL, getL]
    refine HL_skip ?_ ?_
    · exact wantF (j := 3) (b := true) (t := 10) (c := decide (p1 ≤ p0)) rfl rfl rfl rfl hb3
    try dsimp only [putL, setL, evL, getL]
    refine HL_skip ?_ ?_
    · exact wantF (j := 3) (b := true) (t := 10) (c := decide (p1 ≤ p0)) rfl rfl rfl rfl hb3
    try dsimp only [putL, setL, evL, getL]
    refine HL_cons rfl ?_
    refine o_pickF rfl hb3 ?_
    try dsimp only [putL, setL, evL, getL]
    refine HL_cons rfl ?_
    refine o_assign ?_
    try dsimp only [putL, setL, evL, getL]
    refine HL_nil ?_
    refine hK2 _ _ ?_
    refine HT_ret ?_
    obtain rfl := Option.some.inj (show some _ = some r from H)
    exact hQr _ _ [.bool false] ⟨rfl, trivial⟩ ⟨rfl, hH⟩
def impl_GoodRune.f (p0 : Int) : Option Bool := (impl_inRange.f p0 0 1114111).bind fun u3 => if u3 = true then ((impl_inRange.f p0 55296 57343).bind fun u5 => some (!u5)) else (some false)
def impl_GoodRune.post (sb s : St) (F0 : Fp) (r : Bool) : Value → St → Prop := fun v s' => v = .bool r ∧ Hp sb s F0 s' []
set_option maxRecDepth 100000 in
set_option maxHeartbeats 4000000 in
theorem impl_GoodRune.ok (sb s : St) (F0 : Fp) (p0 : Int) (hH : Hp sb s F0 s []) (r : Bool) (H : impl_GoodRune.f p0 = some r) : GCall Try.prog 38 #[.int .i64 p0] s (impl_GoodRune.post sb s F0 r) := by
  refine GCall_ofk [.tmp 2] [.int .i64 p0, undef, undef, undef, undef, undef, undef, undef, undef, undef] Try.func38 rfl rfl rfl ?_
  intro w Q hQr hQn hQp
  replace H := topE H
  unfold impl_GoodRune.f at H
  refine HT_seq_k ?_
  intro K1 hK1
  refine HT_region ?_
  refine HL_cons rfl ?_
  refine o_assign ?_
  try dsimp only [putL, setL, evL, getL]
  refine HL_nil ?_
  refine hK1 _ _ ?_
  refine HT_seq_k ?_
  intro K2 hK2
  refine HT_region ?_
  refine HL_cons rfl ?_
  refine o_move ?_
  try dsimp only [putL, setL, evL, getL]
  obtain ⟨u3, hu3, H⟩ := headE H
  refine HL_cons rfl ?_
  refine o_call (args := #[.int .i64 p0, .int .i64 0, .int .i64 1114111]) Try.func34 rfl rfl rfl (impl_inRange.ok sb s no p0 0 1114111 (Hp.own hH.bs) _ hu3) ?_
  rintro _ s3 ⟨rfl, hD⟩
  replace hH := hH.back0 hD (Up.refl _ _ _)
  clear hD
  dsimp only [addC, setC, rmC, selC, getC] at hH
  try dsimp only [putL, setL, evL, getL]
  refine HL_cons rfl ?_
  refine o_move ?_
  try dsimp only [putL, setL, evL, getL]
  rcases Bool.eq_false_or_eq_true u3 with hb4 | hb4
  · replace H := iteT hb4 H
    refine HL_want ?_ ?_
    · exact wantT (j := 2) (b := true) (t := 5) (c := u3) rfl rfl rfl rfl hb4
    refine o_move ?_
    try dsimp only [putL, setL, evL, getL]
    obtain ⟨u5, hu5, H⟩ := headE H
    refine HL_want ?_ ?_
    · exact wantT (j := 2) (b := true) (t := 5) (c := u3) rfl rfl rfl rfl hb4
    refine o_call (args := #[.int .i64 p0, .int .i64 55296, .int .i64 57343]) Try.func34 rfl rfl rfl (impl_inRange.ok sb s3 no p0 55296 57343 (Hp.own hH.bs) _ hu5) ?_
    rintro _ s5 ⟨rfl, hD⟩
    replace hH := hH.back0 hD (Up.refl _ _ _)
    clear hD
    dsimp only [addC, setC, rmC, selC, getC] at hH
    try dsimp only [putL, setL, evL, getL]
    refine HL_want ?_ ?_
    · exact wantT (j := 2) (b := true) (t := 5) (c := u3) rfl rfl rfl rfl hb4
    refine o_not rfl ?_
    try dsimp only [putL, setL, evL, getL]
    refine HL_cons rfl ?_
    refine o_pickT rfl hb4 ?_
    try dsimp only [putL, setL, evL, getL]
    refine HL_cons rfl ?_
    refine o_assign ?_
    try dsimp only [putL, setL, evL, getL]
    refine HL_nil ?_
    refine hK2 _ _ ?_
    refine HT_ret ?_
    obtain rfl := Option.some.inj (show some _ = some r from H)
    exact hQr _ _ [.bool (!u5)] ⟨rfl, trivial⟩ ⟨rfl, hH⟩
  · replace H := iteF hb4 H
    refine HL_skip ?_ ?_
    · exact wantF (j := 2) (b := true) (t := 5) (c := u3) rfl rfl rfl rfl hb4
    try dsimp only [putL, setL, evL, getL]
    refine HL_skip ?_ ?_
    · exact wantF (j := 2) (b := true) (t := 5) (c := u3) rfl rfl rfl rfl hb4
    try dsimp only [putL, setL, evL, getL]
    refine HL_skip ?_ ?_
    · exact wantF (j := 2) (b := true) (t := 5) (c := u3) rfl rfl rfl rfl hb4
    try dsimp only [putL, setL, evL, getL]
    refine HL_cons rfl ?_
    refine o_pickF rfl hb4 ?_
    try dsimp only [putL, setL, evL, getL]
    refine HL_cons rfl ?_
    refine o_assign ?_
    try dsimp only [putL, setL, evL, getL]
    refine HL_nil ?_
    refine hK2 _ _ ?_
    refine HT_ret ?_
    obtain rfl := Option.some.inj (show some _ = some r from H)
    exact hQr _ _ [.bool false] ⟨rfl, trivial⟩ ⟨rfl, hH⟩
def impl_areRunes_1.f (p0 : Int) : Option Bool := (impl_GoodRune.f p0).bind fun u3 => some (!u3)
def impl_areRunes_1.post (sb s : St) (F0 : Fp) (r : Bool) : Value → St → Prop := fun v s' => v = .bool r ∧ Hp sb s F0 s' []
set_option maxRecDepth 100000 in
set_option maxHeartbeats 4000000 in
theorem impl_areRunes_1.ok (sb s : St) (F0 : Fp) (p0 : Int) (hH : Hp sb s F0 s []) (r : Bool) (H : impl_areRunes_1.f p0 = some r) : GCall Try.prog 61 #[.int .i64 p0] s (impl_areRunes_1.post sb s F0 r) := by
  refine GCall_ofk [.tmp 2] [.int .i64 p0, undef, undef, undef, undef, undef] Try.func61 rfl rfl rfl ?_
  intro w Q hQr hQn hQp
  replace H := topE H
  unfold impl_areRunes_1.f at H
  refine HT_seq_k ?_
  intro K1 hK1
  refine HT_region ?_
  refine HL_cons rfl ?_
  refine o_assign ?_
  try dsimp only [putL, setL, evL, getL]
  refine HL_nil ?_
  refine hK1 _ _ ?_
  refine HT_seq_k ?_
  intro K2 hK2
  refine HT_region ?_
  refine HL_cons rfl ?_
  refine o_move ?_
  try dsimp only [putL, setL, evL, getL]
  obtain ⟨u3, hu3, H⟩ := headE H
  refine HL_cons rfl ?_
  refine o_call (args := #[.int .i64 p0]) Try.func38 rfl rfl rfl (impl_GoodRune.ok sb s no p0 (Hp.own hH.bs) _ hu3) ?_
  rintro _ s3 ⟨rfl, hD⟩
  replace hH := hH.back0 hD (Up.refl _ _ _)
  clear hD
  dsimp only [addC, setC, rmC, selC, getC] at hH
  try dsimp only [putL, setL, evL, getL]
  refine HL_cons rfl ?_
  refine o_not rfl ?_
  try dsimp only [putL, setL, evL, getL]
  refine HL_cons rfl ?_
  refine o_assign ?_
  try dsimp only [putL, setL, evL, getL]
  refine HL_nil ?_
  refine hK2 _ _ ?_
  refine HT_ret ?_
  obtain rfl := Option.some.inj (show some _ = some r from H)
  exact hQr _ _ [.bool (!u3)] ⟨rfl, trivial⟩ ⟨rfl, hH⟩
def slices_IndexFunc_int_int_impl_areRunes_1.l1 (p0 : List (Int)) : Nat → Int → Option (Lo Unit Int)
  | 0, _ => none
  | kf + 1, x48 => if (decide (x48 < (p0.length : Int))) = true then ((rd? p0 x48).bind fun u67 => (impl_areRunes_1.f u67).bind fun u68 => if u68 = true then ((some x48).bind fun z => some (Lo.ret z)) else (slices_IndexFunc_int_int_impl_areRunes_1.l1 p0 kf (IntKind.i64.wrap (x48 + 1)))) else (some (Lo.go ()))
def slices_IndexFunc_int_int_impl_areRunes_1.f (p0 : List (Int)) : Option Int := (slices_IndexFunc_int_int_impl_areRunes_1.l1 p0 ((((p0.length : Int)) - (0)).toNat + 2) 0).bind fun (o : Lo Unit Int) => match o with | .go () => (some (-1)) | .ret z => some z
def slices_IndexFunc_int_int_impl_areRunes_1.post (sb s : St) (F0 : Fp) (r : Int) : Value → St → Prop := fun v s' => v = .int .i64 r ∧ Hp sb s F0 s' []
set_option maxRecDepth 100000 in
set_option maxHeartbeats 4000000 in
theorem slices_IndexFunc_int_int_impl_areRunes_1.ok (sb s : St) (F0 : Fp) (A0p : Option Addr) (c0p : Nat) (p0 : List (Int)) (HRp0 : Rd KI sb A0p c0p p0) (hH : Hp sb s F0 s []) (r : Int) (H : slices_IndexFunc_int_int_impl_areRunes_1.f p0 = some r) : GCall Try.prog 56 #[.slice A0p p0.length c0p, .func (.func 61) #[] #[]] s (slices_IndexFunc_int_int_impl_areRunes_1.post sb s F0 r) := by
  refine GCall_ofk [.tmp 4] [.slice A0p p0.length c0p, .func (.func 61) #[] #[], undef, undef, undef, undef, undef, undef, undef, undef, undef, undef, undef, undef, undef, undef, undef, undef, undef] Try.func56 rfl rfl rfl ?_
  intro w Q hQr hQn hQp
  replace H := topE H
  unfold slices_IndexFunc_int_int_impl_areRunes_1.f at H
  refine HT_seq_k ?_
  intro K1 hK1
  refine HT_region ?_
  refine HL_cons rfl ?_
  refine o_assign ?_
  try dsimp only [putL, setL, evL, getL]
  refine HL_nil ?_
  refine hK1 _ _ ?_
  refine HT_seq_k ?_
  intro K2 hK2
  refine HT_seq_k ?_
  intro K3 hK3
  refine HT_region ?_
  refine HL_cons rfl ?_
  refine o_move ?_
  try dsimp only [putL, setL, evL, getL]
  refine HL_cons rfl ?_
  refine o_len rfl Try.underlying22 ?_
  try dsimp only [putL, setL, evL, getL]
  refine HL_cons rfl ?_
  refine o_move ?_
  try dsimp only [putL, setL, evL, getL]
  refine HL_nil ?_
  refine hK3 _ _ ?_
  refine joinH H fun G4 hG4 H => ?_
  refine HT_toK (fun l' s' => G4 (.go ()) = some r ∧ l' = [.slice A0p p0.length c0p, .func (.func 61) #[] #[], undef, undef, getL l' 4, getL l' 5, .slice A0p p0.length c0p, .int .i64 (p0.length : Int), getL l' 8, getL l' 9, getL l' 10, getL l' 11, getL l' 12, getL l' 13, getL l' 14, getL l' 15, getL l' 16, getL l' 17, getL l' 18] ∧ Hp sb s F0 s' []) ?_ ?_
  · intro K4 hK4
    refine HT_block ?_
    refine HT_loopK (fun kf l' s' => ∃ (x48 : Int), (slices_IndexFunc_int_int_impl_areRunes_1.l1 p0 kf x48).bind G4 = some r ∧ l' = [.slice A0p p0.length c0p, .func (.func 61) #[] #[], undef, undef, getL l' 4, getL l' 5, .slice A0p p0.length c0p, .int .i64 (p0.length : Int), .int .i64 x48, getL l' 9, getL l' 10, getL l' 11, getL l' 12, getL l' 13, getL l' 14, getL l' 15, getL l' 16, getL l' 17, getL l' 18] ∧ Hp sb s F0 s' []) ((((p0.length : Int)) - (0)).toNat + 2) ⟨0, H, rfl, hH⟩ ?_
    rintro kf l' s60 ⟨x48, H, hl, hH⟩ K60 hK60
    generalize getL l' 4 = j4, getL l' 5 = j5, getL l' 9 = j9, getL l' 10 = j10, getL l' 11 = j11, getL l' 12 = j12, getL l' 13 = j13, getL l' 14 = j14, getL l' 15 = j15, getL l' 16 = j16, getL l' 17 = j17, getL l' 18 = j18 at hl
    subst hl
    cases kf with
    | zero => simp [slices_IndexFunc_int_int_impl_areRunes_1.l1] at H
    | succ kf =>
      rw [slices_IndexFunc_int_int_impl_areRunes_1.l1] at H
      refine HT_seq_k ?_
      intro K61 hK61
      refine HT_region ?_
      refine HL_cons rfl ?_
      refine o_bin rfl rfl rfl ?_
      try dsimp only [putL, setL, evL, getL]
      refine HL_nil ?_
      refine hK61 _ _ ?_
      refine HT_seq_k ?_
      intro K62 hK62
      rcases Bool.eq_false_or_eq_true (decide (x48 < (p0.length : Int))) with hb63 | hb63
      · replace H := iteT hb63 H
        refine HT_true (congrArg Value.bool hb63) ?_
        refine HT_skip ?_
        refine hK62 _ _ ?_
        refine HT_seq_k ?_
        intro K64 hK64
        refine HT_block ?_
        refine HT_seq_k ?_
        intro K65 hK65
        refine HT_region ?_
        refine HL_cons rfl ?_
        refine o_move ?_
        try dsimp only [putL, setL, evL, getL]
        refine HL_cons rfl ?_
        refine o_assign ?_
        try dsimp only [putL, setL, evL, getL]
        refine HL_nil ?_
        refine hK65 _ _ ?_
        refine HT_seq_k ?_
        intro K66 hK66
        refine HT_region ?_
        refine HL_cons rfl ?_
        refine o_move ?_
        try dsimp only [putL, setL, evL, getL]
        refine HL_cons rfl ?_
        refine o_move ?_
        try dsimp only [putL, setL, evL, getL]
        refine HL_cons rfl ?_
        refine o_move ?_
        try dsimp only [putL, setL, evL, getL]
        obtain ⟨u67, hu67, H⟩ := headE H
        obtain ⟨b67, o67, cs67, hr67, hh67, hel67⟩ := Rd.elb HRp0 hu67
        obtain rfl := hr67
        refine HL_cons rfl ?_
        refine hel67 s60 rfl rfl Try.underlying22 tI3 ?_
        try dsimp only [putL, setL, evL, getL]
        refine HL_cons rfl ?_
        refine o_load' rfl Try.underlying3 rfl ((hh67 hH.bs.mono) 0 _ rfl) ?_
        try dsimp only [putL, setL, evL, getL]
        obtain ⟨u68, hu68, H⟩ := headE H
        refine HL_cons rfl ?_
        refine o_callv (first := #[]) (cap := #[]) (args := #[.int .i64 u67]) rfl Try.func61 rfl rfl [.int .i64 u67] rfl (by simp) (impl_areRunes_1.ok sb s60 no u67 (Hp.own hH.bs) _ hu68) ?_
        rintro _ s68 ⟨rfl, hD⟩
        replace hH := hH.back0 hD (Up.refl _ _ _)
        clear hD
        dsimp only [addC, setC, rmC, selC, getC] at hH
        try dsimp only [putL, setL, evL, getL]
        refine HL_nil ?_
        refine hK66 _ _ ?_
        rcases Bool.eq_false_or_eq_true u68 with hb69 | hb69
        · replace H := iteT hb69 H
          refine HT_true (congrArg Value.bool hb69) ?_
          refine HT_seq_k ?_
          intro K70 hK70
          refine HT_region ?_
          refine HL_cons rfl ?_
          refine o_move ?_
          try dsimp only [putL, setL, evL, getL]
          refine HL_cons rfl ?_
          refine o_assign ?_
          try dsimp only [putL, setL, evL, getL]
          refine HL_nil ?_
          refine hK70 _ _ ?_
          refine HT_ret ?_
          replace H := escH (fun z hz => hG4 _ hz) H
          obtain rfl := Option.some.inj (show some _ = some r from H)
          exact hQr _ _ [.int .i64 x48] ⟨rfl, trivial⟩ ⟨rfl, hH⟩
        · replace H := iteF hb69 H
          refine HT_false (congrArg Value.bool hb69) ?_
          refine HT_skip ?_
          refine hK64 _ _ ?_
          refine HT_region ?_
          refine HL_cons rfl ?_
          refine o_bin rfl rfl rfl ?_
          try dsimp only [putL, setL, evL, getL]
          refine HL_cons rfl ?_
          refine o_move ?_
          try dsimp only [putL, setL, evL, getL]
          refine HL_nil ?_
          exact hK60 _ _ ⟨kf, Nat.lt_succ_self kf, IntKind.i64.wrap (x48 + 1), H, rfl, hH⟩
      · replace H := iteF hb63 H
        refine HT_false (congrArg Value.bool hb63) ?_
        refine HT_exit ?_
        exact hK4 _ _ ⟨H, rfl, hH⟩
  · rintro l' s71 ⟨H, hl, hH⟩
    generalize getL l' 4 = j4, getL l' 5 = j5, getL l' 8 = j8, getL l' 9 = j9, getL l' 10 = j10, getL l' 11 = j11, getL l' 12 = j12, getL l' 13 = j13, getL l' 14 = j14, getL l' 15 = j15, getL l' 16 = j16, getL l' 17 = j17, getL l' 18 = j18 at hl
    subst hl
    replace H := hG4 _ H
    try dsimp only at H
    refine hK2 _ _ ?_
    refine HT_seq_k ?_
    intro K72 hK72
    refine HT_region ?_
    refine HL_cons rfl ?_
    refine o_assign ?_
    try dsimp only [putL, setL, evL, getL]
    refine HL_nil ?_
    refine hK72 _ _ ?_
    refine HT_ret ?_
    obtain rfl := Option.some.inj (show some _ = some r from H)
    exact hQr _ _ [.int .i64 (-1)] ⟨rfl, trivial⟩ ⟨rfl, hH⟩
def slices_ContainsFunc_int_int_impl_areRunes_1.f (p0 : List (Int)) : Option Bool := (slices_IndexFunc_int_int_impl_areRunes_1.f p0).bind fun u3 => some (decide (u3 ≥ 0))
def slices_ContainsFunc_int_int_impl_areRunes_1.post (sb s : St) (F0 : Fp) (r : Bool) : Value → St → Prop := fun v s' => v = .bool r ∧ Hp sb s F0 s' []
set_option maxRecDepth 100000 in
set_option maxHeartbeats 4000000 in
theorem slices_ContainsFunc_int_int_impl_areRunes_1.ok (sb s : St) (F0 : Fp) (A0p : Option Addr) (c0p : Nat) (p0 : List (Int)) (HRp0 : Rd KI sb A0p c0p p0) (hH : Hp sb s F0 s []) (r : Bool) (H : slices_ContainsFunc_int_int_impl_areRunes_1.f p0 = some r) : GCall Try.prog 36 #[.slice A0p p0.length c0p, .func (.func 61) #[] #[]] s (slices_ContainsFunc_int_int_impl_areRunes_1.post sb s F0 r) := by
  refine GCall_ofk [.tmp 4] [.slice A0p p0.length c0p, .func (.func 61) #[] #[], undef, undef, undef, undef, undef, undef, undef] Try.func36 rfl rfl rfl ?_
  intro w Q hQr hQn hQp
  replace H := topE H
  unfold slices_ContainsFunc_int_int_impl_areRunes_1.f at H
  refine HT_seq_k ?_
  intro K1 hK1
  refine HT_region ?_
  refine HL_cons rfl ?_
  refine o_assign ?_
  try dsimp only [putL, setL, evL, getL]
  refine HL_nil ?_
  refine hK1 _ _ ?_
  refine HT_seq_k ?_
  intro K2 hK2
  refine HT_region ?_
  refine HL_cons rfl ?_
  refine o_move ?_
  try dsimp only [putL, setL, evL, getL]
  refine HL_cons rfl ?_
  refine o_move ?_
  try dsimp only [putL, setL, evL, getL]
  obtain ⟨u3, hu3, H⟩ := headE H
  refine HL_cons rfl ?_
  refine o_call (args := #[.slice A0p p0.length c0p, .func (.func 61) #[] #[]]) Try.func56 rfl rfl rfl (slices_IndexFunc_int_int_impl_areRunes_1.ok sb s no A0p c0p p0 HRp0 (Hp.own hH.bs) _ hu3) ?_
  rintro _ s3 ⟨rfl, hD⟩
  replace hH := hH.back0 hD (Up.refl _ _ _)
  clear hD
  dsimp only [addC, setC, rmC, selC, getC] at hH
  try dsimp only [putL, setL, evL, getL]
  refine HL_cons rfl ?_
  refine o_bin rfl rfl rfl ?_
  try dsimp only [putL, setL, evL, getL]
  refine HL_cons rfl ?_
  refine o_assign ?_
  try dsimp only [putL, setL, evL, getL]
  refine HL_nil ?_
  refine hK2 _ _ ?_
  refine HT_ret ?_
  obtain rfl := Option.some.inj (show some _ = some r from H)
  exact hQr _ _ [.bool (decide (u3 ≥ 0))] ⟨rfl, trivial⟩ ⟨rfl, hH⟩
def impl_areRunes.f (p0 : List (Int)) (p1 : Int) : Option Bool := if (decide ((p0.length : Int) ≤ p1)) = true then ((slices_ContainsFunc_int_int_impl_areRunes_1.f p0).bind fun u4 => some (!u4)) else (some false)
def impl_areRunes.post (sb s : St) (F0 : Fp) (r : Bool) : Value → St → Prop := fun v s' => v = .bool r ∧ Hp sb s F0 s' []
set_option maxRecDepth 100000 in
set_option maxHeartbeats 4000000 in
theorem impl_areRunes.ok (sb s : St) (F0 : Fp) (A0p : Option Addr) (c0p : Nat) (p0 : List (Int)) (p1 : Int) (HRp0 : Rd KI sb A0p c0p p0) (hH : Hp sb s F0 s []) (r : Bool) (H : impl_areRunes.f p0 p1 = some r) : GCall Try.prog 50 #[.slice A0p p0.length c0p, .int .i64 p1] s (impl_areRunes.post sb s F0 r) := by
  refine GCall_ofk [.tmp 4] [.slice A0p p0.length c0p, .int .i64 p1, undef, undef, undef, undef, undef, undef, undef, undef, undef, undef, undef, undef] Try.func50 rfl rfl rfl ?_
  intro w Q hQr hQn hQp
  replace H := topE H
  unfold impl_areRunes.f at H
  refine HT_seq_k ?_
  intro K1 hK1
  refine HT_region ?_
  refine HL_cons rfl ?_
  refine o_assign ?_
  try dsimp only [putL, setL, evL, getL]
  refine HL_nil ?_
  refine hK1 _ _ ?_
  refine HT_seq_k ?_
  intro K2 hK2
  refine HT_region ?_
  refine HL_cons rfl ?_
  refine o_move ?_
  try dsimp only [putL, setL, evL, getL]
  refine HL_cons rfl ?_
  refine o_len rfl Try.underlying22 ?_
  try dsimp only [putL, setL, evL, getL]
  refine HL_cons rfl ?_
  refine o_move ?_
  try dsimp only [putL, setL, evL, getL]
  refine HL_cons rfl ?_
  refine o_bin rfl rfl rfl ?_
  try dsimp only [putL, setL, evL, getL]
  refine HL_cons rfl ?_
  refine o_move ?_
  try dsimp only [putL, setL, evL, getL]
  rcases Bool.eq_false_or_eq_true (decide ((p0.length : Int) ≤ p1)) with hb3 | hb3
  · replace H := iteT hb3 H
    refine HL_want ?_ ?_
    · exact wantT (j := 4) (b := true) (t := 9) (c := decide ((p0.length : Int) ≤ p1)) rfl rfl rfl rfl hb3
    refine o_move ?_
    try dsimp only [putL, setL, evL, getL]
    obtain ⟨u4, hu4, H⟩ := headE H
    refine HL_want ?_ ?_
    · exact wantT (j := 4) (b := true) (t := 9) (c := decide ((p0.length : Int) ≤ p1)) rfl rfl rfl rfl hb3
    refine o_call (args := #[.slice A0p p0.length c0p, .func (.func 61) #[] #[]]) Try.func36 rfl rfl rfl (slices_ContainsFunc_int_int_impl_areRunes_1.ok sb s no A0p c0p p0 HRp0 (Hp.own hH.bs) _ hu4) ?_
    rintro _ s4 ⟨rfl, hD⟩
    replace hH := hH.back0 hD (Up.refl _ _ _)
    clear hD
    dsimp only [addC, setC, rmC, selC, getC] at hH
    try dsimp only [putL, setL, evL, getL]
    refine HL_want ?_ ?_
    · exact wantT (j := 4) (b := true) (t := 9) (c := decide ((p0.length : Int) ≤ p1)) rfl rfl rfl rfl hb3
    refine o_not rfl ?_
    try dsimp only [putL, setL, evL, getL]
    refine HL_cons rfl ?_
    refine o_pickT rfl hb3 ?_
    try dsimp only [putL, setL, evL, getL]
    refine HL_cons rfl ?_
    refine o_assign ?_
    try dsimp only [putL, setL, evL, getL]
    refine HL_nil ?_
    refine hK2 _ _ ?_
    refine HT_ret ?_
    obtain rfl := Option.some.inj (show some _ = some r from H)
    exact hQr _ _ [.bool (!u4)] ⟨rfl, trivial⟩ ⟨rfl, hH⟩
  · replace H := iteF hb3 H
    refine HL_skip ?_ ?_
    · exact wantF (j := 4) (b := true) (t := 9) (c := decide ((p0.length : Int) ≤ p1)) rfl rfl rfl rfl hb3
    try dsimp only [putL, setL, evL, getL]
    refine HL_skip ?_ ?_
    · exact wantF (j := 4) (b := true) (t := 9) (c := decide ((p0.length : Int) ≤ p1)) rfl rfl rfl rfl hb3
    try dsimp only [putL, setL, evL, getL]
    refine HL_skip ?_ ?_
    · exact wantF (j := 4) (b := true) (t := 9) (c := decide ((p0.length : Int) ≤ p1)) rfl rfl rfl rfl hb3
    try dsimp only [putL, setL, evL, getL]
    refine HL_cons rfl ?_
    refine o_pickF rfl hb3 ?_
    try dsimp only [putL, setL, evL, getL]
    refine HL_cons rfl ?_
    refine o_assign ?_
    try dsimp only [putL, setL, evL, getL]
    refine HL_nil ?_
    refine hK2 _ _ ?_
    refine HT_ret ?_
    obtain rfl := Option.some.inj (show some _ = some r from H)
    exact hQr _ _ [.bool false] ⟨rfl, trivial⟩ ⟨rfl, hH⟩
def impl_areShort_1.f (p0 : List (Int)) : Option Bool := (impl_areRunes.f p0 60).bind fun u3 => some (!u3)
def impl_areShort_1.post (sb s : St) (F0 : Fp) (r : Bool) : Value → St → Prop := fun v s' => v = .bool r ∧ Hp sb s F0 s' []
set_option maxRecDepth 100000 in
set_option maxHeartbeats 4000000 in
theorem impl_areShort_1.ok (sb s : St) (F0 : Fp) (A0p : Option Addr) (c0p : Nat) (p0 : List (Int)) (HRp0 : Rd KI sb A0p c0p p0) (hH : Hp sb s F0 s []) (r : Bool) (H : impl_areShort_1.f p0 = some r) : GCall Try.prog 58 #[.slice A0p p0.length c0p] s (impl_areShort_1.post sb s F0 r) := by
  refine GCall_ofk [.tmp 2] [.slice A0p p0.length c0p, undef, undef, undef, undef, undef] Try.func58 rfl rfl rfl ?_
  intro w Q hQr hQn hQp
  replace H := topE H
  unfold impl_areShort_1.f at H
  refine HT_seq_k ?_
  intro K1 hK1
  refine HT_region ?_
  refine HL_cons rfl ?_
  refine o_assign ?_
  try dsimp only [putL, setL, evL, getL]
  refine HL_nil ?_
  refine hK1 _ _ ?_
  refine HT_seq_k ?_
  intro K2 hK2
  refine HT_region ?_
  refine HL_cons rfl ?_
  refine o_move ?_
  try dsimp only [putL, setL, evL, getL]
  obtain ⟨u3, hu3, H⟩ := headE H
  refine HL_cons rfl ?_
  refine o_call (args := #[.slice A0p p0.length c0p, .int .i64 60]) Try.func50 rfl rfl rfl (impl_areRunes.ok sb s no A0p c0p p0 60 HRp0 (Hp.own hH.bs) _ hu3) ?_
  rintro _ s3 ⟨rfl, hD⟩
  replace hH := hH.back0 hD (Up.refl _ _ _)
  clear hD
  dsimp only [addC, setC, rmC, selC, getC] at hH
  try dsimp only [putL, setL, evL, getL]
  refine HL_cons rfl ?_
  refine o_not rfl ?_
  try dsimp only [putL, setL, evL, getL]
  refine HL_cons rfl ?_
  refine o_assign ?_
  try dsimp only [putL, setL, evL, getL]
  refine HL_nil ?_
  refine hK2 _ _ ?_
  refine HT_ret ?_
  obtain rfl := Option.some.inj (show some _ = some r from H)
  exact hQr _ _ [.bool (!u3)] ⟨rfl, trivial⟩ ⟨rfl, hH⟩
def slices_IndexFunc_int_int_impl_areShort_1.l1 (p0 : List (List (Int))) : Nat → Int → Option (Lo Unit Int)
  | 0, _ => none
  | kf + 1, x52 => if (decide (x52 < (p0.length : Int))) = true then ((rd? p0 x52).bind fun u72 => (impl_areShort_1.f u72).bind fun u74 => if u74 = true then ((some x52).bind fun z => some (Lo.ret z)) else (slices_IndexFunc_int_int_impl_areShort_1.l1 p0 kf (IntKind.i64.wrap (x52 + 1)))) else (some (Lo.go ()))
def slices_IndexFunc_int_int_impl_areShort_1.f (p0 : List (List (Int))) : Option Int := (slices_IndexFunc_int_int_impl_areShort_1.l1 p0 ((((p0.length : Int)) - (0)).toNat + 2) 0).bind fun (o : Lo Unit Int) => match o with | .go () => (some (-1)) | .ret z => some z
def slices_IndexFunc_int_int_impl_areShort_1.post (sb s : St) (F0 : Fp) (r : Int) : Value → St → Prop := fun v s' => v = .int .i64 r ∧ Hp sb s F0 s' []
set_option maxRecDepth 100000 in
set_option maxHeartbeats 4000000 in
theorem slices_IndexFunc_int_int_impl_areShort_1.ok (sb s : St) (F0 : Fp) (A0p : Option Addr) (c0p : Nat) (p0 : List (List (Int))) (HRp0 : Rd (Kd.sl KI) sb A0p c0p p0) (hH : Hp sb s F0 s []) (r : Int) (H : slices_IndexFunc_int_int_impl_areShort_1.f p0 = some r) : GCall Try.prog 64 #[.slice A0p p0.length c0p, .func (.func 58) #[] #[]] s (slices_IndexFunc_int_int_impl_areShort_1.post sb s F0 r) := by
  refine GCall_ofk [.tmp 4] [.slice A0p p0.length c0p, .func (.func 58) #[] #[], undef, undef, undef, undef, undef, undef, undef, undef, undef, undef, undef, undef, undef, undef, undef, undef, undef] Try.func64 rfl rfl rfl ?_
  intro w Q hQr hQn hQp
  replace H := topE H
  unfold slices_IndexFunc_int_int_impl_areShort_1.f at H
  refine HT_seq_k ?_
  intro K1 hK1
  refine HT_region ?_
  refine HL_cons rfl ?_
  refine o_assign ?_
  try dsimp only [putL, setL, evL, getL]
  refine HL_nil ?_
  refine hK1 _ _ ?_
  refine HT_seq_k ?_
  intro K2 hK2
  refine HT_seq_k ?_
  intro K3 hK3
  refine HT_region ?_
  refine HL_cons rfl ?_
  refine o_move ?_
  try dsimp only [putL, setL, evL, getL]
  refine HL_cons rfl ?_
  refine o_len rfl Try.underlying63 ?_
  try dsimp only [putL, setL, evL, getL]
  refine HL_cons rfl ?_
  refine o_move ?_
  try dsimp only [putL, setL, evL, getL]
  refine HL_nil ?_
  refine hK3 _ _ ?_
  refine joinH H fun G4 hG4 H => ?_
  refine HT_toK (fun l' s' => G4 (.go ()) = some r ∧ l' = [.slice A0p p0.length c0p, .func (.func 58) #[] #[], undef, undef, getL l' 4, getL l' 5, .slice A0p p0.length c0p, .int .i64 (p0.length : Int), getL l' 8, getL l' 9, getL l' 10, getL l' 11, getL l' 12, getL l' 13, getL l' 14, getL l' 15, getL l' 16, getL l' 17, getL l' 18] ∧ Hp sb s F0 s' []) ?_ ?_
  · intro K4 hK4
    refine HT_block ?_
    refine HT_loopK (fun kf l' s' => ∃ (x52 : Int), (slices_IndexFunc_int_int_impl_areShort_1.l1 p0 kf x52).bind G4 = some r ∧ l' = [.slice A0p p0.length c0p, .func (.func 58) #[] #[], undef, undef, getL l' 4, getL l' 5, .slice A0p p0.length c0p, .int .i64 (p0.length : Int), .int .i64 x52, getL l' 9, getL l' 10, getL l' 11, getL l' 12, getL l' 13, getL l' 14, getL l' 15, getL l' 16, getL l' 17, getL l' 18] ∧ Hp sb s F0 s' []) ((((p0.length : Int)) - (0)).toNat + 2) ⟨0, H, rfl, hH⟩ ?_
    rintro kf l' s65 ⟨x52, H, hl, hH⟩ K65 hK65
    generalize getL l' 4 = j4, getL l' 5 = j5, getL l' 9 = j9, getL l' 10 = j10, getL l' 11 = j11, getL l' 12 = j12, getL l' 13 = j13, getL l' 14 = j14, getL l' 15 = j15, getL l' 16 = j16, getL l' 17 = j17, getL l' 18 = j18 at hl
    subst hl
    cases kf with
    | zero => simp [slices_IndexFunc_int_int_impl_areShort_1.l1] at H
    | succ kf =>
      rw [slices_IndexFunc_int_int_impl_areShort_1.l1] at H
      refine HT_seq_k ?_
      intro K66 hK66
      refine HT_region ?_
      refine HL_cons rfl ?_
      refine o_bin rfl rfl rfl ?_
      try dsimp only [putL, setL, evL, getL]
      refine HL_nil ?_
      refine hK66 _ _ ?_
      refine HT_seq_k ?_
      intro K67 hK67
      rcases Bool.eq_false_or_eq_true (decide (x52 < (p0.length : Int))) with hb68 | hb68
      · replace H := iteT hb68 H
        refine HT_true (congrArg Value.bool hb68) ?_
        refine HT_skip ?_
        refine hK67 _ _ ?_
        refine HT_seq_k ?_
        intro K69 hK69
        refine HT_block ?_
        refine HT_seq_k ?_
        intro K70 hK70
        refine HT_region ?_
        refine HL_cons rfl ?_
        refine o_move ?_
        try dsimp only [putL, setL, evL, getL]
        refine HL_cons rfl ?_
        refine o_assign ?_
        try dsimp only [putL, setL, evL, getL]
        refine HL_nil ?_
        refine hK70 _ _ ?_
        refine HT_seq_k ?_
        intro K71 hK71
        refine HT_region ?_
        refine HL_cons rfl ?_
        refine o_move ?_
        try dsimp only [putL, setL, evL, getL]
        refine HL_cons rfl ?_
        refine o_move ?_
        try dsimp only [putL, setL, evL, getL]
        refine HL_cons rfl ?_
        refine o_move ?_
        try dsimp only [putL, setL, evL, getL]
        obtain ⟨u72, hu72, H⟩ := headE H
        obtain ⟨b72, o72, cs72, hr72, hh72, hel72⟩ := Rd.elb HRp0 hu72
        obtain ⟨A73, c73, rfl, D73⟩ := hr72
        refine HL_cons rfl ?_
        refine hel72 s65 rfl rfl Try.underlying63 tI22 ?_
        try dsimp only [putL, setL, evL, getL]
        refine HL_cons rfl ?_
        refine o_load' rfl Try.underlying22 rfl ((hh72 hH.bs.mono) 0 _ rfl) ?_
        try dsimp only [putL, setL, evL, getL]
        obtain ⟨u74, hu74, H⟩ := headE H
        refine HL_cons rfl ?_
        refine o_callv (first := #[]) (cap := #[]) (args := #[.slice A73 u72.length c73]) rfl Try.func58 rfl rfl [.slice A73 u72.length c73] rfl (by simp) (impl_areShort_1.ok sb s65 no A73 c73 u72 D73 (Hp.own hH.bs) _ hu74) ?_
        rintro _ s74 ⟨rfl, hD⟩
        replace hH := hH.back0 hD (Up.refl _ _ _)
        clear hD
        dsimp only [addC, setC, rmC, selC, getC] at hH
        try dsimp only [putL, setL, evL, getL]
        refine HL_nil ?_
        refine hK71 _ _ ?_
        rcases Bool.eq_false_or_eq_true u74 with hb75 | hb75
        · replace H := iteT hb75 H
          refine HT_true (congrArg Value.bool hb75) ?_
          refine HT_seq_k ?_
          intro K76 hK76
          refine HT_region ?_
          refine HL_cons rfl ?_
          refine o_move ?_
          try dsimp only [putL, setL, evL, getL]
          refine HL_cons rfl ?_
          refine o_assign ?_
          try dsimp only [putL, setL, evL, getL]
          refine HL_nil ?_
          refine hK76 _ _ ?_
          refine HT_ret ?_
          replace H := escH (fun z hz => hG4 _ hz) H
          obtain rfl := Option.some.inj (show some _ = some r from H)
          exact hQr _ _ [.int .i64 x52] ⟨rfl, trivial⟩ ⟨rfl, hH⟩
        · replace H := iteF hb75 H
          refine HT_false (congrArg Value.bool hb75) ?_
          refine HT_skip ?_
          refine hK69 _ _ ?_
          refine HT_region ?_
          refine HL_cons rfl ?_
          refine o_bin rfl rfl rfl ?_
          try dsimp only [putL, setL, evL, getL]
          refine HL_cons rfl ?_
          refine o_move ?_
          try dsimp only [putL, setL, evL, getL]
          refine HL_nil ?_
          exact hK65 _ _ ⟨kf, Nat.lt_succ_self kf, IntKind.i64.wrap (x52 + 1), H, rfl, hH⟩
      · replace H := iteF hb68 H
        refine HT_false (congrArg Value.bool hb68) ?_
        refine HT_exit ?_
        exact hK4 _ _ ⟨H, rfl, hH⟩
  · rintro l' s77 ⟨H, hl, hH⟩
    generalize getL l' 4 = j4, getL l' 5 = j5, getL l' 8 = j8, getL l' 9 = j9, getL l' 10 = j10, getL l' 11 = j11, getL l' 12 = j12, getL l' 13 = j13, getL l' 14 = j14, getL l' 15 = j15, getL l' 16 = j16, getL l' 17 = j17, getL l' 18 = j18 at hl
    subst hl
    replace H := hG4 _ H
    try dsimp only at H
    refine hK2 _ _ ?_
    refine HT_seq_k ?_
    intro K78 hK78
    refine HT_region ?_
    refine HL_cons rfl ?_
    refine o_assign ?_
    try dsimp only [putL, setL, evL, getL]
    refine HL_nil ?_
    refine hK78 _ _ ?_
    refine HT_ret ?_
    obtain rfl := Option.some.inj (show some _ = some r from H)
    exact hQr _ _ [.int .i64 (-1)] ⟨rfl, trivial⟩ ⟨rfl, hH⟩
def slices_ContainsFunc_int_int_impl_areShort_1.f (p0 : List (List (Int))) : Option Bool := (slices_IndexFunc_int_int_impl_areShort_1.f p0).bind fun u3 => some (decide (u3 ≥ 0))
def slices_ContainsFunc_int_int_impl_areShort_1.post (sb s : St) (F0 : Fp) (r : Bool) : Value → St → Prop := fun v s' => v = .bool r ∧ Hp sb s F0 s' []
set_option maxRecDepth 100000 in
set_option maxHeartbeats 4000000 in
theorem slices_ContainsFunc_int_int_impl_areShort_1.ok (sb s : St) (F0 : Fp) (A0p : Option Addr) (c0p : Nat) (p0 : List (List (Int))) (HRp0 : Rd (Kd.sl KI) sb A0p c0p p0) (hH : Hp sb s F0 s []) (r : Bool) (H : slices_ContainsFunc_int_int_impl_areShort_1.f p0 = some r) : GCall Try.prog 57 #[.slice A0p p0.length c0p, .func (.func 58) #[] #[]] s (slices_ContainsFunc_int_int_impl_areShort_1.post sb s F0 r) := by
  refine GCall_ofk [.tmp 4] [.slice A0p p0.length c0p, .func (.func 58) #[] #[], undef, undef, undef, undef, undef, undef, undef] Try.func57 rfl rfl rfl ?_
  intro w Q hQr hQn hQp
  replace H := topE H
  unfold slices_ContainsFunc_int_int_impl_areShort_1.f at H
  refine HT_seq_k ?_
  intro K1 hK1
  refine HT_region ?_
  refine HL_cons rfl ?_
  refine o_assign ?_
  try dsimp only [putL, setL, evL, getL]
  refine HL_nil ?_
  refine hK1 _ _ ?_
  refine HT_seq_k ?_
  intro K2 hK2
  refine HT_region ?_
  refine HL_cons rfl ?_
  refine o_move ?_
  try dsimp only [putL, setL, evL, getL]
  refine HL_cons rfl ?_
  refine o_move ?_
  try dsimp only [putL, setL, evL, getL]
  obtain ⟨u3, hu3, H⟩ := headE H
  refine HL_cons rfl ?_
  refine o_call (args := #[.slice A0p p0.length c0p, .func (.func 58) #[] #[]]) Try.func64 rfl rfl rfl (slices_IndexFunc_int_int_impl_areShort_1.ok sb s no A0p c0p p0 HRp0 (Hp.own hH.bs) _ hu3) ?_
  rintro _ s3 ⟨rfl, hD⟩
  replace hH := hH.back0 hD (Up.refl _ _ _)
  clear hD
  dsimp only [addC, setC, rmC, selC, getC] at hH
  try dsimp only [putL, setL, evL, getL]
  refine HL_cons rfl ?_
  refine o_bin rfl rfl rfl ?_
  try dsimp only [putL, setL, evL, getL]
  refine HL_cons rfl ?_
  refine o_assign ?_
  try dsimp only [putL, setL, evL, getL]
  refine HL_nil ?_
  refine hK2 _ _ ?_
  refine HT_ret ?_
  obtain rfl := Option.some.inj (show some _ = some r from H)
  exact hQr _ _ [.bool (decide (u3 ≥ 0))] ⟨rfl, trivial⟩ ⟨rfl, hH⟩
def impl_areShort.f (p0 : List (List (Int))) : Option Bool := (slices_ContainsFunc_int_int_impl_areShort_1.f p0).bind fun u3 => some (!u3)
def impl_areShort.post (sb s : St) (F0 : Fp) (r : Bool) : Value → St → Prop := fun v s' => v = .bool r ∧ Hp sb s F0 s' []
set_option maxRecDepth 100000 in
set_option maxHeartbeats 4000000 in
theorem impl_areShort.ok (sb s : St) (F0 : Fp) (A0p : Option Addr) (c0p : Nat) (p0 : List (List (Int))) (HRp0 : Rd (Kd.sl KI) sb A0p c0p p0) (hH : Hp sb s F0 s []) (r : Bool) (H : impl_areShort.f p0 = some r) : GCall Try.prog 41 #[.slice A0p p0.length c0p] s (impl_areShort.post sb s F0 r) := by
  refine GCall_ofk [.tmp 2] [.slice A0p p0.length c0p, undef, undef, undef, undef, undef] Try.func41 rfl rfl rfl ?_
  intro w Q hQr hQn hQp
  replace H := topE H
  unfold impl_areShort.f at H
  refine HT_seq_k ?_
  intro K1 hK1
  refine HT_region ?_
  refine HL_cons rfl ?_
  refine o_assign ?_
  try dsimp only [putL, setL, evL, getL]
  refine HL_nil ?_
  refine hK1 _ _ ?_
  refine HT_seq_k ?_
  intro K2 hK2
  refine HT_region ?_
  refine HL_cons rfl ?_
  refine o_move ?_
  try dsimp only [putL, setL, evL, getL]
  obtain ⟨u3, hu3, H⟩ := headE H
  refine HL_cons rfl ?_
  refine o_call (args := #[.slice A0p p0.length c0p, .func (.func 58) #[] #[]]) Try.func57 rfl rfl rfl (slices_ContainsFunc_int_int_impl_areShort_1.ok sb s no A0p c0p p0 HRp0 (Hp.own hH.bs) _ hu3) ?_
  rintro _ s3 ⟨rfl, hD⟩
  replace hH := hH.back0 hD (Up.refl _ _ _)
  clear hD
  dsimp only [addC, setC, rmC, selC, getC] at hH
  try dsimp only [putL, setL, evL, getL]
  refine HL_cons rfl ?_
  refine o_not rfl ?_
  try dsimp only [putL, setL, evL, getL]
  refine HL_cons rfl ?_
  refine o_assign ?_
  try dsimp only [putL, setL, evL, getL]
  refine HL_nil ?_
  refine hK2 _ _ ?_
  refine HT_ret ?_
  obtain rfl := Option.some.inj (show some _ = some r from H)
  exact hQr _ _ [.bool (!u3)] ⟨rfl, trivial⟩ ⟨rfl, hH⟩
def impl_firstRow.l1 (p0 : Int) : Nat → (List (Int)) → Int → Option (List (Int))
  | 0, _, _ => none
  | kf + 1, x41, x42 => if (decide (x42 < (IntKind.i64.wrap (p0 + 1)))) = true then ((app? 17592186044416 x41 [x42]).bind fun x59 => impl_firstRow.l1 p0 kf x59 (IntKind.i64.wrap (x42 + 1))) else (some x41)
def impl_firstRow.f (p0 : Int) : Option (List (Int)) := (impl_firstRow.l1 p0 (((IntKind.i64.wrap (p0 + 1)) - (0)).toNat + 2) ([] : List (Int)) 0).bind fun (o : (List (Int))) => match o with | x33 => (some x33)
def impl_firstRow.post (sb s : St) (F0 : Fp) (r : (List (Int))) : Value → St → Prop := fun v s' => ∃ (A0 : Option Addr) (c0 : Nat), v = .slice A0 r.length c0 ∧ Hp sb s F0 s' [Ck.ol OI 3 A0 c0 r]
set_option maxRecDepth 100000 in
set_option maxHeartbeats 4000000 in
theorem impl_firstRow.ok (sb s : St) (F0 : Fp) (p0 : Int) (hH : Hp sb s F0 s []) (r : (List (Int))) (H : impl_firstRow.f p0 = some r) : GCall Try.prog 47 #[.int .i64 p0] s (impl_firstRow.post sb s F0 r) := by
  refine GCall_ofk [.tmp 2] [.int .i64 p0, undef, undef, undef, undef, undef, undef, undef, undef, undef, undef, undef, undef, undef, undef, undef, undef] Try.func47 rfl rfl rfl ?_
  intro w Q hQr hQn hQp
  replace H := topE H
  unfold impl_firstRow.f at H
  refine HT_seq_k ?_
  intro K1 hK1
  refine HT_region ?_
  refine HL_cons rfl ?_
  refine o_assign ?_
  try dsimp only [putL, setL, evL, getL]
  refine HL_nil ?_
  refine hK1 _ _ ?_
  refine HT_seq_k ?_
  intro K2 hK2
  refine HT_region ?_
  refine HL_cons rfl ?_
  refine o_lit0H (α := Int) (K := KI) (O := OI) hH Try.underlying22 tI3 ?_
  intro A3 s3 hH' hG
  replace hH : Hp sb s F0 s3 [Ck.ol OI 3 A3 0 ([] : List (Int))] := hH'
  clear hH' hG
  try dsimp only [putL, setL, evL, getL]
  refine HL_cons rfl ?_
  refine o_assign ?_
  try dsimp only [putL, setL, evL, getL]
  refine HL_nil ?_
  refine hK2 _ _ ?_
  refine HT_seq_k ?_
  intro K4 hK4
  refine HT_seq_k ?_
  intro K5 hK5
  refine HT_region ?_
  refine HL_cons rfl ?_
  refine o_move ?_
  try dsimp only [putL, setL, evL, getL]
  refine HL_cons rfl ?_
  refine o_bin rfl rfl rfl ?_
  try dsimp only [putL, setL, evL, getL]
  refine HL_cons rfl ?_
  refine o_move ?_
  try dsimp only [putL, setL, evL, getL]
  refine HL_nil ?_
  refine hK5 _ _ ?_
  refine joinH H fun G6 hG6 H => ?_
  refine HT_toK (fun l' s' => ∃ (x33 : List (Int)) (A33 : Option Addr) (c33 : Nat), G6 x33 = some r ∧ l' = [.int .i64 p0, undef, .slice none 0 0, .slice A33 x33.length c33, getL l' 4, .slice A3 ([] : List (Int)).length 0, .int .i64 p0, .int .i64 (IntKind.i64.wrap (p0 + 1)), getL l' 8, getL l' 9, getL l' 10, getL l' 11, getL l' 12, getL l' 13, getL l' 14, getL l' 15, undef] ∧ Hp sb s F0 s' [Ck.ol OI 3 A33 c33 x33]) ?_ ?_
  · intro K6 hK6
    refine HT_block ?_
    refine HT_loopK (fun kf l' s' => ∃ (x41 : List (Int)) (A41 : Option Addr) (c41 : Nat) (x42 : Int), (impl_firstRow.l1 p0 kf x41 x42).bind G6 = some r ∧ l' = [.int .i64 p0, undef, .slice none 0 0, .slice A41 x41.length c41, getL l' 4, .slice A3 ([] : List (Int)).length 0, .int .i64 p0, .int .i64 (IntKind.i64.wrap (p0 + 1)), .int .i64 x42, getL l' 9, getL l' 10, getL l' 11, getL l' 12, getL l' 13, getL l' 14, getL l' 15, undef] ∧ Hp sb s F0 s' [Ck.ol OI 3 A41 c41 x41]) (((IntKind.i64.wrap (p0 + 1)) - (0)).toNat + 2) ⟨([] : List (Int)), A3, 0, 0, H, rfl, hH⟩ ?_
    rintro kf l' s52 ⟨x41, A41, c41, x42, H, hl, hH⟩ K52 hK52
    generalize getL l' 4 = j4, getL l' 9 = j9, getL l' 10 = j10, getL l' 11 = j11, getL l' 12 = j12, getL l' 13 = j13, getL l' 14 = j14, getL l' 15 = j15 at hl
    subst hl
    cases kf with
    | zero => simp [impl_firstRow.l1] at H
    | succ kf =>
      rw [impl_firstRow.l1] at H
      refine HT_seq_k ?_
      intro K53 hK53
      refine HT_region ?_
      refine HL_cons rfl ?_
      refine o_bin rfl rfl rfl ?_
      try dsimp only [putL, setL, evL, getL]
      refine HL_nil ?_
      refine hK53 _ _ ?_
      refine HT_seq_k ?_
      intro K54 hK54
      rcases Bool.eq_false_or_eq_true (decide (x42 < (IntKind.i64.wrap (p0 + 1)))) with hb55 | hb55
      · replace H := iteT hb55 H
        refine HT_true (congrArg Value.bool hb55) ?_
        refine HT_skip ?_
        refine hK54 _ _ ?_
        refine HT_seq_k ?_
        intro K56 hK56
        refine HT_block ?_
        refine HT_seq_k ?_
        intro K57 hK57
        refine HT_region ?_
        refine HL_cons rfl ?_
        refine o_move ?_
        try dsimp only [putL, setL, evL, getL]
        refine HL_cons rfl ?_
        refine o_assign ?_
        try dsimp only [putL, setL, evL, getL]
        refine HL_nil ?_
        refine hK57 _ _ ?_
        refine HT_region ?_
        refine HL_cons rfl ?_
        refine o_move ?_
        try dsimp only [putL, setL, evL, getL]
        refine HL_cons rfl ?_
        refine o_move ?_
        try dsimp only [putL, setL, evL, getL]
        refine HL_cons rfl ?_
        refine o_litF (K := KI) (O := OI) (ca := #[.int .i64 x42]) [[.int .i64 x42]] [x42] hH Try.underlying22 tI3 rfl (by decide) rfl rfl rfl rfl ⟨rfl, Ent.own (Ent.flat rfl), trivial⟩ ?_
        intro A58 s58 hH' hG
        replace hH : Hp sb s F0 s58 [Ck.ol OI 3 A41 c41 x41, Ck.ol OI 3 A58 1 [x42]] := hH'
        clear hH' hG
        try dsimp only [putL, setL, evL, getL]
        obtain ⟨x59, hx59, H⟩ := headE H
        refine HL_cons rfl ?_
        refine o_appF (K := KI) (n := 17592186044416) (A := A41) (c := c41) (xs := x41) (ys := [x42]) (B := A58) (c2 := 1) hH 0 rfl rfl rfl rfl Try.underlying22 tI3 rfl (by decide) (by decide) (by decide) (Src.flat (hH.rd 1 rfl)) hx59 ?_
        intro A59 c59 s59 hH'
        replace hH : Hp sb s F0 s59 [Ck.ol OI 3 A59 c59 x59, Ck.ol OI 3 A58 1 [x42]] := hH'
        clear hH'
        try dsimp only [putL, setL, evL, getL]
        refine HL_cons rfl ?_
        refine o_assign ?_
        try dsimp only [putL, setL, evL, getL]
        refine HL_nil ?_
        refine hK56 _ _ ?_
        refine HT_region ?_
        refine HL_cons rfl ?_
        refine o_bin rfl rfl rfl ?_
        try dsimp only [putL, setL, evL, getL]
        refine HL_cons rfl ?_
        refine o_move ?_
        try dsimp only [putL, setL, evL, getL]
        refine HL_nil ?_
        exact hK52 _ _ ⟨kf, Nat.lt_succ_self kf, x59, A59, c59, IntKind.i64.wrap (x42 + 1), H, rfl, hH.sel [0] (by decide)⟩
      · replace H := iteF hb55 H
        refine HT_false (congrArg Value.bool hb55) ?_
        refine HT_exit ?_
        exact hK6 _ _ ⟨x41, A41, c41, H, rfl, hH⟩
  · rintro l' s60 ⟨x33, A33, c33, H, hl, hH⟩
    generalize getL l' 4 = j4, getL l' 8 = j8, getL l' 9 = j9, getL l' 10 = j10, getL l' 11 = j11, getL l' 12 = j12, getL l' 13 = j13, getL l' 14 = j14, getL l' 15 = j15 at hl
    subst hl
    replace H := hG6 _ H
    try dsimp only at H
    refine hK4 _ _ ?_
    refine HT_seq_k ?_
    intro K61 hK61
    refine HT_region ?_
    refine HL_cons rfl ?_
    refine o_move ?_
    try dsimp only [putL, setL, evL, getL]
    refine HL_cons rfl ?_
    refine o_assign ?_
    try dsimp only [putL, setL, evL, getL]
    refine HL_nil ?_
    refine hK61 _ _ ?_
    refine HT_ret ?_
    obtain rfl := Option.some.inj (show some _ = some r from H)
    exact hQr _ _ [.slice A33 x33.length c33] ⟨rfl, trivial⟩ ⟨A33, c33, rfl, hH⟩
def impl_nextRow.l1 (p0 : List (Int)) (p1 : Int) (p2 : List (Int)) : Nat → (List (Int)) → Int → Option (List (Int))
  | 0, _, _ => none
  | kf + 1, x154, x155 => if (decide (x155 < (p2.length : Int))) = true then ((rd? p2 x155).bind fun u215 => (rd? p0 x155).bind fun u217 => (if (u215 != p1) = true then (some (IntKind.i64.wrap (u217 + 1))) else (some u217)).bind fun (o : Int) => match o with | x221 => ((rd? p0 (IntKind.i64.wrap (x155 + 1))).bind fun u225 => (rd? x154 x155).bind fun u226 => (app? 17592186044416 x154 [min x221 (min (IntKind.i64.wrap (u225 + 1)) (IntKind.i64.wrap (u226 + 1)))]).bind fun x228 => impl_nextRow.l1 p0 p1 p2 kf x228 (IntKind.i64.wrap (x155 + 1)))) else (some x154)
def impl_nextRow.f (p0 : List (Int)) (p1 : Int) (p2 : List (Int)) : Option (List (Int)) := (rd? p0 0).bind fun u3 => (impl_nextRow.l1 p0 p1 p2 ((((p2.length : Int)) - (0)).toNat + 2) [IntKind.i64.wrap (u3 + 1)] 0).bind fun (o : (List (Int))) => match o with | x118 => (some x118)
def impl_nextRow.post (sb s : St) (F0 : Fp) (r : (List (Int))) : Value → St → Prop := fun v s' => ∃ (A0 : Option Addr) (c0 : Nat), v = .slice A0 r.length c0 ∧ Hp sb s F0 s' [Ck.ol OI 3 A0 c0 r]
set_option maxRecDepth 100000 in
set_option maxHeartbeats 4000000 in
theorem impl_nextRow.ok (sb s : St) (F0 : Fp) (A0p : Option Addr) (c0p : Nat) (p0 : List (Int)) (p1 : Int) (A2p : Option Addr) (c2p : Nat) (p2 : List (Int)) (HRp0 : Rd KI sb A0p c0p p0) (HRp2 : Rd KI sb A2p c2p p2) (hH : Hp sb s F0 s []) (r : (List (Int))) (H : impl_nextRow.f p0 p1 p2 = some r) : GCall Try.prog 48 #[.slice A0p p0.length c0p, .int .i64 p1, .slice A2p p2.length c2p] s (impl_nextRow.post sb s F0 r) := by
  refine GCall_ofk [.tmp 6] [.slice A0p p0.length c0p, .int .i64 p1, .slice A2p p2.length c2p, undef, undef, undef, undef, undef, undef, undef, undef, undef, undef, undef, undef, undef, undef, undef, undef, undef, undef, undef, undef, undef, undef, undef, undef, undef, undef, undef, undef, undef, undef, undef, undef, undef, undef, undef, undef, undef, undef, undef, undef, undef, undef, undef, undef, undef, undef, undef] Try.func48 rfl rfl rfl ?_
  intro w Q hQr hQn hQp
  replace H := topE H
  unfold impl_nextRow.f at H
  refine HT_seq_k ?_
  intro K1 hK1
  refine HT_region ?_
  refine HL_cons rfl ?_
  refine o_assign ?_
  try dsimp only [putL, setL, evL, getL]
  refine HL_nil ?_
  refine hK1 _ _ ?_
  refine HT_seq_k ?_
  intro K2 hK2
  refine HT_region ?_
  refine HL_cons rfl ?_
  refine o_move ?_
  try dsimp only [putL, setL, evL, getL]
  obtain ⟨u3, hu3, H⟩ := headE H
  obtain ⟨b3, o3, cs3, hr3, hh3, hel3⟩ := Rd.elb HRp0 hu3
  obtain rfl := hr3
  refine HL_cons rfl ?_
  refine hel3 s rfl rfl Try.underlying22 tI3 ?_
  try dsimp only [putL, setL, evL, getL]
  refine HL_cons rfl ?_
  refine o_load' rfl Try.underlying3 rfl ((hh3 hH.bs.mono) 0 _ rfl) ?_
  try dsimp only [putL, setL, evL, getL]
  refine HL_cons rfl ?_
  refine o_bin rfl rfl rfl ?_
  try dsimp only [putL, setL, evL, getL]
  refine HL_cons rfl ?_
  refine o_litF (K := KI) (O := OI) (ca := #[.int .i64 (IntKind.i64.wrap (u3 + 1))]) [[.int .i64 (IntKind.i64.wrap (u3 + 1))]] [IntKind.i64.wrap (u3 + 1)] hH Try.underlying22 tI3 rfl (by decide) rfl rfl rfl rfl ⟨rfl, Ent.own (Ent.flat rfl), trivial⟩ ?_
  intro A4 s4 hH' hG
  replace hH : Hp sb s F0 s4 [Ck.ol OI 3 A4 1 [IntKind.i64.wrap (u3 + 1)]] := hH'
  clear hH' hG
  try dsimp only [putL, setL, evL, getL]
  refine HL_cons rfl ?_
  refine o_assign ?_
  try dsimp only [putL, setL, evL, getL]
  refine HL_nil ?_
  refine hK2 _ _ ?_
  refine HT_seq_k ?_
  intro K5 hK5
  refine HT_seq_k ?_
  intro K6 hK6
  refine HT_region ?_
  refine HL_cons rfl ?_
  refine o_move ?_
  try dsimp only [putL, setL, evL, getL]
  refine HL_cons rfl ?_
  refine o_len rfl Try.underlying22 ?_
  try dsimp only [putL, setL, evL, getL]
  refine HL_cons rfl ?_
  refine o_move ?_
  try dsimp only [putL, setL, evL, getL]
  refine HL_nil ?_
  refine hK6 _ _ ?_
  refine joinH H fun G7 hG7 H => ?_
  refine HT_toK (fun l' s' => ∃ (x118 : List (Int)) (A118 : Option Addr) (c118 : Nat), G7 x118 = some r ∧ l' = [.slice A0p p0.length c0p, .int .i64 p1, .slice A2p p2.length c2p, undef, undef, undef, .slice none 0 0, .slice A118 x118.length c118, getL l' 8, getL l' 9, getL l' 10, .slice A0p p0.length c0p, .pointer (some ⟨b3, o3, none⟩), .int .i64 u3, .int .i64 (IntKind.i64.wrap (u3 + 1)), .slice A4 [IntKind.i64.wrap (u3 + 1)].length 1, .slice A2p p2.length c2p, .int .i64 (p2.length : Int), getL l' 18, getL l' 19, getL l' 20, getL l' 21, getL l' 22, getL l' 23, getL l' 24, getL l' 25, getL l' 26, getL l' 27, getL l' 28, getL l' 29, getL l' 30, getL l' 31, getL l' 32, getL l' 33, getL l' 34, getL l' 35, getL l' 36, getL l' 37, getL l' 38, getL l' 39, getL l' 40, getL l' 41, getL l' 42, getL l' 43, getL l' 44, getL l' 45, getL l' 46, getL l' 47, getL l' 48, undef] ∧ Hp sb s F0 s' [Ck.ol OI 3 A118 c118 x118]) ?_ ?_
  · intro K7 hK7
    refine HT_block ?_
    refine HT_loopK (fun kf l' s' => ∃ (x154 : List (Int)) (A154 : Option Addr) (c154 : Nat) (x155 : Int), (impl_nextRow.l1 p0 p1 p2 kf x154 x155).bind G7 = some r ∧ l' = [.slice A0p p0.length c0p, .int .i64 p1, .slice A2p p2.length c2p, undef, undef, undef, .slice none 0 0, .slice A154 x154.length c154, getL l' 8, getL l' 9, getL l' 10, .slice A0p p0.length c0p, .pointer (some ⟨b3, o3, none⟩), .int .i64 u3, .int .i64 (IntKind.i64.wrap (u3 + 1)), .slice A4 [IntKind.i64.wrap (u3 + 1)].length 1, .slice A2p p2.length c2p, .int .i64 (p2.length : Int), .int .i64 x155, getL l' 19, getL l' 20, getL l' 21, getL l' 22, getL l' 23, getL l' 24, getL l' 25, getL l' 26, getL l' 27, getL l' 28, getL l' 29, getL l' 30, getL l' 31, getL l' 32, getL l' 33, getL l' 34, getL l' 35, getL l' 36, getL l' 37, getL l' 38, getL l' 39, getL l' 40, getL l' 41, getL l' 42, getL l' 43, getL l' 44, getL l' 45, getL l' 46, getL l' 47, getL l' 48, undef] ∧ Hp sb s F0 s' [Ck.ol OI 3 A154 c154 x154]) ((((p2.length : Int)) - (0)).toNat + 2) ⟨[IntKind.i64.wrap (u3 + 1)], A4, 1, 0, H, rfl, hH⟩ ?_
    rintro kf l' s193 ⟨x154, A154, c154, x155, H, hl, hH⟩ K193 hK193
    generalize getL l' 8 = j8, getL l' 9 = j9, getL l' 10 = j10, getL l' 19 = j19, getL l' 20 = j20, getL l' 21 = j21, getL l' 22 = j22, getL l' 23 = j23, getL l' 24 = j24, getL l' 25 = j25, getL l' 26 = j26, getL l' 27 = j27, getL l' 28 = j28, getL l' 29 = j29, getL l' 30 = j30, getL l' 31 = j31, getL l' 32 = j32, getL l' 33 = j33, getL l' 34 = j34, getL l' 35 = j35, getL l' 36 = j36, getL l' 37 = j37, getL l' 38 = j38, getL l' 39 = j39, getL l' 40 = j40, getL l' 41 = j41, getL l' 42 = j42, getL l' 43 = j43, getL l' 44 = j44, getL l' 45 = j45, getL l' 46 = j46, getL l' 47 = j47, getL l' 48 = j48 at hl
    subst hl
    cases kf with
    | zero => simp [impl_nextRow.l1] at H
    | succ kf =>
      rw [impl_nextRow.l1] at H
      refine HT_seq_k ?_
      intro K194 hK194
      refine HT_region ?_
      refine HL_cons rfl ?_
      refine o_bin rfl rfl rfl ?_
      try dsimp only [putL, setL, evL, getL]
      refine HL_nil ?_
      refine hK194 _ _ ?_
      refine HT_seq_k ?_
      intro K195 hK195
      rcases Bool.eq_false_or_eq_true (decide (x155 < (p2.length : Int))) with hb196 | hb196
      · replace H := iteT hb196 H
        refine HT_true (congrArg Value.bool hb196) ?_
        refine HT_skip ?_
        refine hK195 _ _ ?_
        refine HT_seq_k ?_
        intro K213 hK213
        refine HT_block ?_
        refine HT_seq_k ?_
        intro K214 hK214
        refine HT_region ?_
        refine HL_cons rfl ?_
        refine o_move ?_
        try dsimp only [putL, setL, evL, getL]
        obtain ⟨u215, hu215, H⟩ := headE H
        obtain ⟨b215, o215, cs215, hr215, hh215, hel215⟩ := Rd.elb HRp2 hu215
        obtain rfl := hr215
        refine HL_cons rfl ?_
        refine hel215 s193 rfl rfl Try.underlying22 tI3 ?_
        try dsimp only [putL, setL, evL, getL]
        refine HL_cons rfl ?_
        refine o_load' rfl Try.underlying3 rfl ((hh215 hH.bs.mono) 0 _ rfl) ?_
        try dsimp only [putL, setL, evL, getL]
        refine HL_cons rfl ?_
        refine o_assign ?_
        try dsimp only [putL, setL, evL, getL]
        refine HL_cons rfl ?_
        refine o_assign ?_
        try dsimp only [putL, setL, evL, getL]
        refine HL_nil ?_
        refine hK214 _ _ ?_
        refine HT_seq_k ?_
        intro K216 hK216
        refine HT_region ?_
        refine HL_cons rfl ?_
        refine o_move ?_
        try dsimp only [putL, setL, evL, getL]
        refine HL_cons rfl ?_
        refine o_move ?_
        try dsimp only [putL, setL, evL, getL]
        obtain ⟨u217, hu217, H⟩ := headE H
        obtain ⟨b217, o217, cs217, hr217, hh217, hel217⟩ := Rd.elb HRp0 hu217
        obtain rfl := hr217
        refine HL_cons rfl ?_
        refine hel217 s193 rfl rfl Try.underlying22 tI3 ?_
        try dsimp only [putL, setL, evL, getL]
        refine HL_cons rfl ?_
        refine o_load' rfl Try.underlying3 rfl ((hh217 hH.bs.mono) 0 _ rfl) ?_
        try dsimp only [putL, setL, evL, getL]
        refine HL_cons rfl ?_
        refine o_assign ?_
        try dsimp only [putL, setL, evL, getL]
        refine HL_nil ?_
        refine hK216 _ _ ?_
        refine joinH H fun G218 hG218 H => ?_
        refine HT_joinK (fun l' s' => ∃ (x221 : Int), G218 x221 = some r ∧ l' = [.slice A0p p0.length c0p, .int .i64 p1, .slice A2p p2.length c2p, undef, undef, undef, .slice none 0 0, .slice A154 x154.length c154, .int .i64 x155, .int .i64 u215, .int .i64 x221, .slice A0p p0.length c0p, .pointer (some ⟨b3, o3, none⟩), .int .i64 u3, .int .i64 (IntKind.i64.wrap (u3 + 1)), .slice A4 [IntKind.i64.wrap (u3 + 1)].length 1, .slice A2p p2.length c2p, .int .i64 (p2.length : Int), .int .i64 x155, .bool (decide (x155 < (p2.length : Int))), .int .i64 x155, .pointer (some ⟨b215, o215, none⟩), .int .i64 u215, .slice A0p p0.length c0p, .int .i64 x155, .pointer (some ⟨b217, o217, none⟩), .int .i64 u217, getL l' 27, getL l' 28, getL l' 29, getL l' 30, getL l' 31, j32, j33, j34, j35, j36, j37, j38, j39, j40, j41, j42, j43, j44, j45, j46, j47, j48, undef] ∧ Hp sb s F0 s' [Ck.ol OI 3 A154 c154 x154]) ?_ ?_
        · intro K218 hK218
          refine HT_seq_k ?_
          intro K222 hK222
          refine HT_region ?_
          refine HL_cons rfl ?_
          refine o_move ?_
          try dsimp only [putL, setL, evL, getL]
          refine HL_cons rfl ?_
          refine o_move ?_
          try dsimp only [putL, setL, evL, getL]
          refine HL_cons rfl ?_
          refine o_bin rfl rfl rfl ?_
          try dsimp only [putL, setL, evL, getL]
          refine HL_nil ?_
          refine hK222 _ _ ?_
          rcases Bool.eq_false_or_eq_true (u215 != p1) with hb223 | hb223
          · replace H := iteT hb223 H
            refine HT_true (congrArg Value.bool hb223) ?_
            refine HT_region ?_
            refine HL_cons rfl ?_
            refine o_move ?_
            try dsimp only [putL, setL, evL, getL]
            refine HL_cons rfl ?_
            refine o_bin rfl rfl rfl ?_
            try dsimp only [putL, setL, evL, getL]
            refine HL_cons rfl ?_
            refine o_assign ?_
            try dsimp only [putL, setL, evL, getL]
            refine HL_nil ?_
            exact hK218 _ _ ⟨IntKind.i64.wrap (u217 + 1), H, rfl, hH⟩
          · replace H := iteF hb223 H
            refine HT_false (congrArg Value.bool hb223) ?_
            refine HT_skip ?_
            exact hK218 _ _ ⟨u217, H, rfl, hH⟩
        · rintro l' s224 ⟨x221, H, hl, hH⟩
          generalize getL l' 27 = j27, getL l' 28 = j28, getL l' 29 = j29, getL l' 30 = j30, getL l' 31 = j31 at hl
          subst hl
          replace H := hG218 _ H
          try dsimp only at H
          refine HK_draw (fun s' => Gro s224 s') 15 hMix ?_
          have hR := Gro.refl s224
          have hH0 := hH
          refine HK_readP 0 (v := .slice A154 x154.length c154) rfl (by kernel_rfl) (fun c l s h => hQp c l s h) rfl (fun s' K hK => ?_) rfl rfl (fun _ => hR) ?_
          · refine o_move ?_
            exact hK
          try dsimp only [putL, setL, evL, getL]
          refine HK_readP 1 (v := .int .i64 x221) rfl (by kernel_rfl) (fun c l s h => hQp c l s h) rfl (fun s' K hK => ?_) rfl rfl (fun _ => hR) ?_
          · refine o_move ?_
            exact hK
          try dsimp only [putL, setL, evL, getL]
          refine HK_readP 2 (v := .slice A0p p0.length c0p) rfl (by kernel_rfl) (fun c l s h => hQp c l s h) rfl (fun s' K hK => ?_) rfl rfl (fun _ => hR) ?_
          · refine o_move ?_
            exact hK
          try dsimp only [putL, setL, evL, getL]
          refine HK_readP 3 (v := .int .i64 x155) rfl (by kernel_rfl) (fun c l s h => hQp c l s h) rfl (fun s' K hK => ?_) rfl rfl (fun _ => hR) ?_
          · refine o_move ?_
            exact hK
          try dsimp only [putL, setL, evL, getL]
          refine HK_readP 4 (v := .int .i64 (IntKind.i64.wrap (x155 + 1))) rfl (by kernel_rfl) (fun c l s h => hQp c l s h) rfl (fun s' K hK => ?_) rfl rfl (fun _ => hR) ?_
          · refine o_bin rfl rfl rfl ?_
            exact hK
          try dsimp only [putL, setL, evL, getL]
          obtain ⟨u225, hu225, H⟩ := headE H
          obtain ⟨b225, o225, cs225, hr225, hh225, hel225⟩ := Rd.elb HRp0 hu225
          obtain rfl := hr225
          refine HK_readP 5 (v := .pointer (some ⟨b225, o225, none⟩)) rfl (by kernel_rfl) (fun c l s h => hQp c l s h) rfl (fun s' K hK => ?_) rfl rfl (fun _ => hR) ?_
          · refine hel225 s' rfl rfl Try.underlying22 tI3 ?_
            exact hK
          try dsimp only [putL, setL, evL, getL]
          refine HK_read 6 (v := .int .i64 u225) rfl (by kernel_rfl) (fun c l s h => hQp c l s h) rfl (fun s' hR' K hK => ?_) rfl rfl hR ?_
          · refine o_load' rfl Try.underlying3 rfl ((hh225 (hH0.bs.mono.trans hR'.mono)) 0 _ rfl) ?_
            exact hK
          try dsimp only [putL, setL, evL, getL]
          refine HK_readP 7 (v := .int .i64 (IntKind.i64.wrap (u225 + 1))) rfl (by kernel_rfl) (fun c l s h => hQp c l s h) rfl (fun s' K hK => ?_) rfl rfl (fun _ => hR) ?_
          · refine o_bin rfl rfl rfl ?_
            exact hK
          try dsimp only [putL, setL, evL, getL]
          refine HK_readP 8 (v := .slice A154 x154.length c154) rfl (by kernel_rfl) (fun c l s h => hQp c l s h) rfl (fun s' K hK => ?_) rfl rfl (fun _ => hR) ?_
          · refine o_move ?_
            exact hK
          try dsimp only [putL, setL, evL, getL]
          refine HK_readP 9 (v := .int .i64 x155) rfl (by kernel_rfl) (fun c l s h => hQp c l s h) rfl (fun s' K hK => ?_) rfl rfl (fun _ => hR) ?_
          · refine o_move ?_
            exact hK
          try dsimp only [putL, setL, evL, getL]
          obtain ⟨u226, hu226, H⟩ := headE H
          obtain ⟨b226, o226, cs226, hA226, hr226, hh226, hel226⟩ := hH0.elo 0 rfl hu226
          obtain rfl := hr226
          refine HK_readP 10 (v := .pointer (some ⟨b226, o226 + Int.toNat x155 * Kd.sz KI, none⟩)) rfl (by kernel_rfl) (fun c l s h => hQp c l s h) rfl (fun s' K hK => ?_) rfl rfl (fun _ => hR) ?_
          · refine hel226 s' rfl rfl Try.underlying22 tI3 ?_
            exact hK
          try dsimp only [putL, setL, evL, getL]
          refine HK_read 11 (v := .int .i64 u226) rfl (by kernel_rfl) (fun c l s h => hQp c l s h) rfl (fun s' hR' K hK => ?_) rfl rfl hR ?_
          · refine o_load' rfl Try.underlying3 rfl (has_gro hR' (hh226 0 _ rfl)) ?_
            exact hK
          try dsimp only [putL, setL, evL, getL]
          refine HK_readP 12 (v := .int .i64 (IntKind.i64.wrap (u226 + 1))) rfl (by kernel_rfl) (fun c l s h => hQp c l s h) rfl (fun s' K hK => ?_) rfl rfl (fun _ => hR) ?_
          · refine o_bin rfl rfl rfl ?_
            exact hK
          try dsimp only [putL, setL, evL, getL]
          refine HK_readP 13 (v := .int .i64 (min x221 (min (IntKind.i64.wrap (u225 + 1)) (IntKind.i64.wrap (u226 + 1))))) rfl (by kernel_rfl) (fun c l s h => hQp c l s h) rfl (fun s' K hK => ?_) rfl rfl (fun _ => hR) ?_
          · refine o_min3 rfl rfl rfl ?_
            exact hK
          try dsimp only [putL, setL, evL, getL]
          refine HK_one 14 (by kernel_rfl) rfl (fun _ => hR) rfl ?_
          refine o_litF (K := KI) (O := OI) (ca := #[.int .i64 (min x221 (min (IntKind.i64.wrap (u225 + 1)) (IntKind.i64.wrap (u226 + 1))))]) [[.int .i64 (min x221 (min (IntKind.i64.wrap (u225 + 1)) (IntKind.i64.wrap (u226 + 1))))]] [min x221 (min (IntKind.i64.wrap (u225 + 1)) (IntKind.i64.wrap (u226 + 1)))] hH Try.underlying22 tI3 rfl (by decide) rfl rfl rfl rfl ⟨rfl, Ent.own (Ent.flat rfl), trivial⟩ ?_
          intro A227 s227 hH' hG
          replace hR := hR.trans hG
          replace hH : Hp sb s F0 s227 [Ck.ol OI 3 A154 c154 x154, Ck.ol OI 3 A227 1 [min x221 (min (IntKind.i64.wrap (u225 + 1)) (IntKind.i64.wrap (u226 + 1)))]] := hH'
          clear hH' hG
          try dsimp only [putL, setL, evL, getL]
          obtain ⟨x228, hx228, H⟩ := headE H
          refine HK_one 15 (by kernel_rfl) rfl (fun _ => hR) rfl ?_
          refine o_appF (K := KI) (n := 17592186044416) (A := A154) (c := c154) (xs := x154) (ys := [min x221 (min (IntKind.i64.wrap (u225 + 1)) (IntKind.i64.wrap (u226 + 1)))]) (B := A227) (c2 := 1) hH 0 rfl rfl rfl rfl Try.underlying22 tI3 rfl (by decide) (by decide) (by decide) (Src.flat (hH.rd 1 rfl)) hx228 ?_
          intro A228 c228 s228 hH'
          replace hH : Hp sb s F0 s228 [Ck.ol OI 3 A228 c228 x228, Ck.ol OI 3 A227 1 [min x221 (min (IntKind.i64.wrap (u225 + 1)) (IntKind.i64.wrap (u226 + 1)))]] := hH'
          clear hH'
          try dsimp only [putL, setL, evL, getL]
          refine HK_one 16 (by kernel_rfl) rfl (fun h => by cases h) rfl ?_
          refine o_assign ?_
          try dsimp only [putL, setL, evL, getL]
          refine HK_done' (by kernel_rfl) (by kernel_rfl) ?_
          refine hK213 _ _ ?_
          refine HT_region ?_
          refine HL_cons rfl ?_
          refine o_bin rfl rfl rfl ?_
          try dsimp only [putL, setL, evL, getL]
          refine HL_cons rfl ?_
          refine o_move ?_
          try dsimp only [putL, setL, evL, getL]
          refine HL_nil ?_
          exact hK193 _ _ ⟨kf, Nat.lt_succ_self kf, x228, A228, c228, IntKind.i64.wrap (x155 + 1), H, rfl, hH.sel [0] (by decide)⟩
      · replace H := iteF hb196 H
        refine HT_false (congrArg Value.bool hb196) ?_
        refine HT_exit ?_
        exact hK7 _ _ ⟨x154, A154, c154, H, rfl, hH⟩
  · rintro l' s229 ⟨x118, A118, c118, H, hl, hH⟩
    generalize getL l' 8 = j8, getL l' 9 = j9, getL l' 10 = j10, getL l' 18 = j18, getL l' 19 = j19, getL l' 20 = j20, getL l' 21 = j21, getL l' 22 = j22, getL l' 23 = j23, getL l' 24 = j24, getL l' 25 = j25, getL l' 26 = j26, getL l' 27 = j27, getL l' 28 = j28, getL l' 29 = j29, getL l' 30 = j30, getL l' 31 = j31, getL l' 32 = j32, getL l' 33 = j33, getL l' 34 = j34, getL l' 35 = j35, getL l' 36 = j36, getL l' 37 = j37, getL l' 38 = j38, getL l' 39 = j39, getL l' 40 = j40, getL l' 41 = j41, getL l' 42 = j42, getL l' 43 = j43, getL l' 44 = j44, getL l' 45 = j45, getL l' 46 = j46, getL l' 47 = j47, getL l' 48 = j48 at hl
    subst hl
    replace H := hG7 _ H
    try dsimp only at H
    refine hK5 _ _ ?_
    refine HT_seq_k ?_
    intro K230 hK230
    refine HT_region ?_
    refine HL_cons rfl ?_
    refine o_move ?_
    try dsimp only [putL, setL, evL, getL]
    refine HL_cons rfl ?_
    refine o_assign ?_
    try dsimp only [putL, setL, evL, getL]
    refine HL_nil ?_
    refine hK230 _ _ ?_
    refine HT_ret ?_
    obtain rfl := Option.some.inj (show some _ = some r from H)
    exact hQr _ _ [.slice A118 x118.length c118] ⟨rfl, trivial⟩ ⟨A118, c118, rfl, hH⟩
def impl_NearEnds.l2 (p0 : List (Int)) : Nat → (List (Int)) → Int → Option (List (Int))
  | 0, _, _ => none
  | kf + 1, x1160, x1161 => if (decide (x1161 < (p0.length : Int))) = true then ((rd? x1160 (IntKind.i64.wrap (x1161 + 1))).bind fun u1179 => (rd? x1160 x1161).bind fun u1180 => (rd? x1160 (IntKind.i64.wrap (x1161 + 1))).bind fun u1181 => (st? x1160 (IntKind.i64.wrap (x1161 + 1)) (min u1179 (IntKind.i64.wrap (u1180 + 1)))).bind fun x1182 => impl_NearEnds.l2 p0 kf x1182 (IntKind.i64.wrap (x1161 + 1))) else (some x1160)
def impl_NearEnds.l1 (p0 : List (Int)) (p1 : List (Int)) (p2 : Int) : Nat → (List (Int)) → (List (Int)) → Int → Option (List (Int))
  | 0, _, _, _ => none
  | kf + 1, x805, x806, x807 => if (decide (x807 < (IntKind.i64.wrap ((p1.length : Int) + 1)))) = true then (((if (decide (x807 > 0)) = true then ((rd? p1 (IntKind.i64.wrap (x807 - 1))).bind fun u1108 => (impl_nextRow.f x806 u1108 p0).bind fun u1109 => some u1109) else (some x806)).bind fun (o : (List (Int))) => match o with | x1105 => ((rd? x1105 0).bind fun u1113 => (st? x1105 0 0).bind fun x1114 => (impl_NearEnds.l2 p0 ((((p0.length : Int)) - (0)).toNat + 2) x1114 0).bind fun (o : (List (Int))) => match o with | x1150 => ((rd? x1150 (p0.length : Int)).bind fun u1185 => if (decide (u1185 ≤ p2)) = true then ((app? 17592186044416 x805 [x807]).bind fun x1188 => some (x1188, x1150)) else (some (x805, x1150))))).bind fun (o : (List (Int)) × (List (Int))) => match o with | (x1096, x1097) => (impl_NearEnds.l1 p0 p1 p2 kf x1096 x1097 (IntKind.i64.wrap (x807 + 1)))) else (some x805)
def impl_NearEnds.f (p0 : List (Int)) (p1 : List (Int)) (p2 : Int) : Option ((List (Int)) × Bool) := ((impl_areShort.f [p0, p1]).bind fun u27 => if (!u27) = true then (some true) else (if ((p0.length : Int) == 0) = true then (some true) else ((impl_inRange.f p2 0 60).bind fun u30 => some (!u30)))).bind fun (o : Bool) => match o with | x25 => (if x25 = true then (some ([], false)) else ((impl_firstRow.f (p0.length : Int)).bind fun u36 => (impl_NearEnds.l1 p0 p1 p2 (((IntKind.i64.wrap ((p1.length : Int) + 1)) - (0)).toNat + 2) ([] : List (Int)) u36 0).bind fun (o : (List (Int))) => match o with | x615 => (some (x615, true))))
def impl_NearEnds.post (sb s : St) (F0 : Fp) (r : (List (Int)) × Bool) : Value → St → Prop := fun v s' => ∃ (A0 : Option Addr) (c0 : Nat), v = .tuple #[.slice A0 r.1.length c0, .bool r.2] ∧ Hp sb s F0 s' [Ck.ol OI 3 A0 c0 r.1]
set_option maxRecDepth 100000 in
set_option maxHeartbeats 4000000 in
theorem impl_NearEnds.ok (sb s : St) (F0 : Fp) (A0p : Option Addr) (c0p : Nat) (p0 : List (Int)) (A1p : Option Addr) (c1p : Nat) (p1 : List (Int)) (p2 : Int) (HRp0 : Rd KI sb A0p c0p p0) (HRp1 : Rd KI sb A1p c1p p1) (hH : Hp sb s F0 s []) (r : (List (Int)) × Bool) (H : impl_NearEnds.f p0 p1 p2 = some r) : GCall Try.prog 23 #[.slice A0p p0.length c0p, .slice A1p p1.length c1p, .int .i64 p2] s (impl_NearEnds.post sb s F0 r) := by
  refine GCall_ofk [.tmp 6, .tmp 7] [.slice A0p p0.length c0p, .slice A1p p1.length c1p, .int .i64 p2, undef, undef, undef, undef, undef, undef, undef, undef, undef, undef, undef, undef, undef, undef, undef, undef, undef, undef, undef, undef, undef, undef, undef, undef, undef, undef, undef, undef, undef, undef, undef, undef, undef, undef, undef, undef, undef, undef, undef, undef, undef, undef, undef, undef, undef, undef, undef, undef, undef, undef, undef, undef, undef, undef, undef, undef, undef, undef, undef, undef, undef, undef, undef, undef, undef, undef, undef, undef, undef, undef, undef, undef, undef, undef, undef, undef, undef, undef, undef, undef] Try.func23 rfl rfl rfl ?_
  intro w Q hQr hQn hQp
  replace H := topE H
  unfold impl_NearEnds.f at H
  refine HT_seq_k ?_
  intro K1 hK1
  refine HT_region ?_
  refine HL_cons rfl ?_
  refine o_assign ?_
  try dsimp only [putL, setL, evL, getL]
  refine HL_cons rfl ?_
  refine o_assign ?_
  try dsimp only [putL, setL, evL, getL]
  refine HL_nil ?_
  refine hK1 _ _ ?_
  refine HT_seq_k ?_
  intro K18 hK18
  refine joinH H fun G19 hG19 H => ?_
  refine HT_joinK (fun l' s' => ∃ (x25 : Bool), G19 x25 = some r ∧ l' = [.slice A0p p0.length c0p, .slice A1p p1.length c1p, .int .i64 p2, undef, undef, undef, .slice none 0 0, .bool false, undef, undef, undef, undef, getL l' 12, getL l' 13, getL l' 14, getL l' 15, getL l' 16, getL l' 17, getL l' 18, getL l' 19, getL l' 20, getL l' 21, getL l' 22, getL l' 23, getL l' 24, getL l' 25, .bool x25, undef, undef, undef, undef, undef, undef, undef, undef, undef, undef, undef, undef, undef, undef, undef, undef, undef, undef, undef, undef, undef, undef, undef, undef, undef, undef, undef, undef, undef, undef, undef, undef, undef, undef, undef, undef, undef, undef, undef, undef, undef, undef, undef, undef, undef, undef, undef, undef, undef, undef, undef, undef, undef, undef, undef, undef] ∧ Hp sb s F0 s' []) ?_ ?_
  · intro K19 hK19
    refine HT_region ?_
    refine HL_cons rfl ?_
    refine o_move ?_
    try dsimp only [putL, setL, evL, getL]
    refine HL_cons rfl ?_
    refine o_move ?_
    try dsimp only [putL, setL, evL, getL]
    refine HL_cons rfl ?_
    refine o_litF (K := (Kd.sl KI)) (O := (Ow.lent (Kd.sl KI))) (ca := #[.slice A0p p0.length c0p, .slice A1p p1.length c1p]) [[.slice A0p p0.length c0p], [.slice A1p p1.length c1p]] [p0, p1] hH Try.underlying63 tI22 rfl (by decide) rfl rfl rfl rfl ⟨rfl, Ent.own (Ent.lent ⟨_, _, rfl, HRp0⟩), rfl, Ent.own (Ent.lent ⟨_, _, rfl, HRp1⟩), trivial⟩ ?_
    intro A26 s26 hH' hG
    replace hH : Hp sb s F0 s26 [Ck.ol (Ow.lent (Kd.sl KI)) 22 A26 2 [p0, p1]] := hH'
    clear hH' hG
    try dsimp only [putL, setL, evL, getL]
    obtain ⟨u27, hu27, H⟩ := headE H
    refine HL_cons rfl ?_
    refine o_call (args := #[.slice A26 [p0, p1].length 2]) Try.func41 rfl rfl rfl (impl_areShort.ok s26 s26 no A26 2 [p0, p1] (hH.rd 0 rfl) (Hp.own (Bs.refl s26)) _ hu27) ?_
    rintro _ s27 ⟨rfl, hD⟩
    replace hH := hH.back0T hD
    clear hD
    dsimp only [addC, setC, rmC, selC, getC] at hH
    try dsimp only [putL, setL, evL, getL]
    refine HL_cons rfl ?_
    refine o_not rfl ?_
    try dsimp only [putL, setL, evL, getL]
    refine HL_cons rfl ?_
    refine o_move ?_
    try dsimp only [putL, setL, evL, getL]
    rcases Bool.eq_false_or_eq_true (!u27) with hb28 | hb28
    · replace H := iteT hb28 H
      refine HL_skip ?_ ?_
      · exact wantF (j := 5) (b := false) (t := 17) (c := !u27) rfl rfl rfl rfl hb28
      try dsimp only [putL, setL, evL, getL]
      refine HL_skip ?_ ?_
      · exact wantF (j := 5) (b := false) (t := 17) (c := !u27) rfl rfl rfl rfl hb28
      try dsimp only [putL, setL, evL, getL]
      refine HL_skip ?_ ?_
      · exact wantF (j := 5) (b := false) (t := 17) (c := !u27) rfl rfl rfl rfl hb28
      try dsimp only [putL, setL, evL, getL]
      refine HL_cons rfl ?_
      refine o_pickT rfl hb28 ?_
      try dsimp only [putL, setL, evL, getL]
      refine HL_cons rfl ?_
      refine o_move ?_
      try dsimp only [putL, setL, evL, getL]
      refine HL_skip ?_ ?_
      · exact wantF (j := 10) (b := false) (t := 22) (c := true) rfl rfl rfl rfl rfl
      try dsimp only [putL, setL, evL, getL]
      refine HL_skip ?_ ?_
      · exact wantF (j := 10) (b := false) (t := 22) (c := true) rfl rfl rfl rfl rfl
      try dsimp only [putL, setL, evL, getL]
      refine HL_skip ?_ ?_
      · exact wantF (j := 10) (b := false) (t := 22) (c := true) rfl rfl rfl rfl rfl
      try dsimp only [putL, setL, evL, getL]
      refine HL_cons rfl ?_
      refine o_pickT rfl rfl ?_
      try dsimp only [putL, setL, evL, getL]
      refine HL_nil ?_
      exact hK19 _ _ ⟨true, H, rfl, hH.sel [] (by decide)⟩
    · replace H := iteF hb28 H
      refine HL_want ?_ ?_
      · exact wantT (j := 5) (b := false) (t := 17) (c := !u27) rfl rfl rfl rfl hb28
      refine o_move ?_
      try dsimp only [putL, setL, evL, getL]
      refine HL_want ?_ ?_
      · exact wantT (j := 5) (b := false) (t := 17) (c := !u27) rfl rfl rfl rfl hb28
      refine o_len rfl Try.underlying22 ?_
      try dsimp only [putL, setL, evL, getL]
      refine HL_want ?_ ?_
      · exact wantT (j := 5) (b := false) (t := 17) (c := !u27) rfl rfl rfl rfl hb28
      refine o_bin rfl rfl rfl ?_
      try dsimp only [putL, setL, evL, getL]
      refine HL_cons rfl ?_
      refine o_pickF rfl hb28 ?_
      try dsimp only [putL, setL, evL, getL]
      refine HL_cons rfl ?_
      refine o_move ?_
      try dsimp only [putL, setL, evL, getL]
      rcases Bool.eq_false_or_eq_true ((p0.length : Int) == 0) with hb29 | hb29
      · replace H := iteT hb29 H
        refine HL_skip ?_ ?_
        · exact wantF (j := 10) (b := false) (t := 22) (c := (p0.length : Int) == 0) rfl rfl rfl rfl hb29
        try dsimp only [putL, setL, evL, getL]
        refine HL_skip ?_ ?_
        · exact wantF (j := 10) (b := false) (t := 22) (c := (p0.length : Int) == 0) rfl rfl rfl rfl hb29
        try dsimp only [putL, setL, evL, getL]
        refine HL_skip ?_ ?_
        · exact wantF (j := 10) (b := false) (t := 22) (c := (p0.length : Int) == 0) rfl rfl rfl rfl hb29
        try dsimp only [putL, setL, evL, getL]
        refine HL_cons rfl ?_
        refine o_pickT rfl hb29 ?_
        try dsimp only [putL, setL, evL, getL]
        refine HL_nil ?_
        exact hK19 _ _ ⟨true, H, rfl, hH.sel [] (by decide)⟩
      · replace H := iteF hb29 H
        refine HL_want ?_ ?_
        · exact wantT (j := 10) (b := false) (t := 22) (c := (p0.length : Int) == 0) rfl rfl rfl rfl hb29
        refine o_move ?_
        try dsimp only [putL, setL, evL, getL]
        obtain ⟨u30, hu30, H⟩ := headE H
        refine HL_want ?_ ?_
        · exact wantT (j := 10) (b := false) (t := 22) (c := (p0.length : Int) == 0) rfl rfl rfl rfl hb29
        refine o_call (args := #[.int .i64 p2, .int .i64 0, .int .i64 60]) Try.func34 rfl rfl rfl (impl_inRange.ok sb s27 no p2 0 60 (Hp.own hH.bs) _ hu30) ?_
        rintro _ s30 ⟨rfl, hD⟩
        replace hH := hH.back0 hD (Up.refl _ _ _)
        clear hD
        dsimp only [addC, setC, rmC, selC, getC] at hH
        try dsimp only [putL, setL, evL, getL]
        refine HL_want ?_ ?_
        · exact wantT (j := 10) (b := false) (t := 22) (c := (p0.length : Int) == 0) rfl rfl rfl rfl hb29
        refine o_not rfl ?_
        try dsimp only [putL, setL, evL, getL]
        refine HL_cons rfl ?_
        refine o_pickF rfl hb29 ?_
        try dsimp only [putL, setL, evL, getL]
        refine HL_nil ?_
        exact hK19 _ _ ⟨!u30, H, rfl, hH.sel [] (by decide)⟩
  · rintro l' s31 ⟨x25, H, hl, hH⟩
    generalize getL l' 12 = j12, getL l' 13 = j13, getL l' 14 = j14, getL l' 15 = j15, getL l' 16 = j16, getL l' 17 = j17, getL l' 18 = j18, getL l' 19 = j19, getL l' 20 = j20, getL l' 21 = j21, getL l' 22 = j22, getL l' 23 = j23, getL l' 24 = j24, getL l' 25 = j25 at hl
    subst hl
    replace H := hG19 _ H
    try dsimp only at H
    rcases Bool.eq_false_or_eq_true x25 with hb32 | hb32
    · replace H := iteT hb32 H
      refine HT_true (congrArg Value.bool hb32) ?_
      refine HT_seq_k ?_
      intro K33 hK33
      refine HT_region ?_
      refine HL_cons rfl ?_
      refine o_assign ?_
      try dsimp only [putL, setL, evL, getL]
      refine HL_cons rfl ?_
      refine o_assign ?_
      try dsimp only [putL, setL, evL, getL]
      refine HL_nil ?_
      refine hK33 _ _ ?_
      refine HT_ret ?_
      obtain rfl := Option.some.inj (show some _ = some r from H)
      exact hQr _ _ [.slice none 0 0, .bool false] ⟨rfl, rfl, trivial⟩ ⟨none, 0, rfl, (hH.nil (K := KI) OI 3)⟩
    · replace H := iteF hb32 H
      refine HT_false (congrArg Value.bool hb32) ?_
      refine HT_skip ?_
      refine hK18 _ _ ?_
      refine HT_seq_k ?_
      intro K34 hK34
      refine HT_region ?_
      refine HL_cons rfl ?_
      refine o_lit0H (α := Int) (K := KI) (O := OI) hH Try.underlying22 tI3 ?_
      intro A35 s35 hH' hG
      replace hH : Hp sb s F0 s35 [Ck.ol OI 3 A35 0 ([] : List (Int))] := hH'
      clear hH' hG
      try dsimp only [putL, setL, evL, getL]
      refine HL_cons rfl ?_
      refine o_move ?_
      try dsimp only [putL, setL, evL, getL]
      refine HL_cons rfl ?_
      refine o_len rfl Try.underlying22 ?_
      try dsimp only [putL, setL, evL, getL]
      obtain ⟨u36, hu36, H⟩ := headE H
      refine HL_cons rfl ?_
      refine o_call (args := #[.int .i64 (p0.length : Int)]) Try.func47 rfl rfl rfl (impl_firstRow.ok sb s35 no (p0.length : Int) (Hp.own hH.bs) _ hu36) ?_
      rintro _ s36 ⟨A37, c37, rfl, hD⟩
      replace hH := hH.back0 hD (Up.refl _ _ _)
      clear hD
      dsimp only [addC, setC, rmC, selC, getC] at hH
      try dsimp only [putL, setL, evL, getL]
      refine HL_cons rfl ?_
      refine o_assign ?_
      try dsimp only [putL, setL, evL, getL]
      refine HL_cons rfl ?_
      refine o_assign ?_
      try dsimp only [putL, setL, evL, getL]
      refine HL_nil ?_
      refine hK34 _ _ ?_
      refine HT_seq_k ?_
      intro K38 hK38
      refine HT_seq_k ?_
      intro K39 hK39
      refine HT_region ?_
      refine HL_cons rfl ?_
      refine o_move ?_
      try dsimp only [putL, setL, evL, getL]
      refine HL_cons rfl ?_
      refine o_len rfl Try.underlying22 ?_
      try dsimp only [putL, setL, evL, getL]
      refine HL_cons rfl ?_
      refine o_bin rfl rfl rfl ?_
      try dsimp only [putL, setL, evL, getL]
      refine HL_cons rfl ?_
      refine o_move ?_
      try dsimp only [putL, setL, evL, getL]
      refine HL_nil ?_
      refine hK39 _ _ ?_
      refine joinH H fun G40 hG40 H => ?_
      refine HT_toK (fun l' s' => ∃ (x615 : List (Int)) (A615 : Option Addr) (c615 : Nat), G40 x615 = some r ∧ l' = [.slice A0p p0.length c0p, .slice A1p p1.length c1p, .int .i64 p2, undef, undef, undef, .slice none 0 0, .bool false, .slice A615 x615.length c615, getL l' 9, getL l' 10, getL l' 11, j12, j13, j14, j15, j16, j17, j18, j19, j20, j21, j22, j23, j24, j25, .bool x25, .slice A35 ([] : List (Int)).length 0, .slice A0p p0.length c0p, .int .i64 (p0.length : Int), .slice A37 u36.length c37, .slice A1p p1.length c1p, .int .i64 (p1.length : Int), .int .i64 (IntKind.i64.wrap ((p1.length : Int) + 1)), getL l' 34, getL l' 35, getL l' 36, getL l' 37, getL l' 38, getL l' 39, getL l' 40, getL l' 41, getL l' 42, getL l' 43, getL l' 44, getL l' 45, getL l' 46, getL l' 47, getL l' 48, getL l' 49, getL l' 50, getL l' 51, getL l' 52, getL l' 53, getL l' 54, getL l' 55, getL l' 56, getL l' 57, getL l' 58, getL l' 59, getL l' 60, getL l' 61, getL l' 62, getL l' 63, getL l' 64, getL l' 65, getL l' 66, getL l' 67, getL l' 68, getL l' 69, getL l' 70, getL l' 71, getL l' 72, getL l' 73, getL l' 74, getL l' 75, getL l' 76, getL l' 77, getL l' 78, getL l' 79, getL l' 80, getL l' 81, undef] ∧ Hp sb s F0 s' [Ck.ol OI 3 A615 c615 x615]) ?_ ?_
      · intro K40 hK40
        refine HT_block ?_
        refine HT_loopK (fun kf l' s' => ∃ (x805 : List (Int)) (A805 : Option Addr) (c805 : Nat) (x806 : List (Int)) (A806 : Option Addr) (c806 : Nat) (x807 : Int), (impl_NearEnds.l1 p0 p1 p2 kf x805 x806 x807).bind G40 = some r ∧ l' = [.slice A0p p0.length c0p, .slice A1p p1.length c1p, .int .i64 p2, undef, undef, undef, .slice none 0 0, .bool false, .slice A805 x805.length c805, .slice A806 x806.length c806, getL l' 10, getL l' 11, j12, j13, j14, j15, j16, j17, j18, j19, j20, j21, j22, j23, j24, j25, .bool x25, .slice A35 ([] : List (Int)).length 0, .slice A0p p0.length c0p, .int .i64 (p0.length : Int), .slice A37 u36.length c37, .slice A1p p1.length c1p, .int .i64 (p1.length : Int), .int .i64 (IntKind.i64.wrap ((p1.length : Int) + 1)), .int .i64 x807, getL l' 35, getL l' 36, getL l' 37, getL l' 38, getL l' 39, getL l' 40, getL l' 41, getL l' 42, getL l' 43, getL l' 44, getL l' 45, getL l' 46, getL l' 47, getL l' 48, getL l' 49, getL l' 50, getL l' 51, getL l' 52, getL l' 53, getL l' 54, getL l' 55, getL l' 56, getL l' 57, getL l' 58, getL l' 59, getL l' 60, getL l' 61, getL l' 62, getL l' 63, getL l' 64, getL l' 65, getL l' 66, getL l' 67, getL l' 68, getL l' 69, getL l' 70, getL l' 71, getL l' 72, getL l' 73, getL l' 74, getL l' 75, getL l' 76, getL l' 77, getL l' 78, getL l' 79, getL l' 80, getL l' 81, undef] ∧ Hp sb s F0 s' [Ck.ol OI 3 A805 c805 x805, Ck.ol OI 3 A806 c806 x806]) (((IntKind.i64.wrap ((p1.length : Int) + 1)) - (0)).toNat + 2) ⟨([] : List (Int)), A35, 0, u36, A37, c37, 0, H, rfl, hH⟩ ?_
        rintro kf l' s1000 ⟨x805, A805, c805, x806, A806, c806, x807, H, hl, hH⟩ K1000 hK1000
        generalize getL l' 10 = j10, getL l' 11 = j11, getL l' 35 = j35, getL l' 36 = j36, getL l' 37 = j37, getL l' 38 = j38, getL l' 39 = j39, getL l' 40 = j40, getL l' 41 = j41, getL l' 42 = j42, getL l' 43 = j43, getL l' 44 = j44, getL l' 45 = j45, getL l' 46 = j46, getL l' 47 = j47, getL l' 48 = j48, getL l' 49 = j49, getL l' 50 = j50, getL l' 51 = j51, getL l' 52 = j52, getL l' 53 = j53, getL l' 54 = j54, getL l' 55 = j55, getL l' 56 = j56, getL l' 57 = j57, getL l' 58 = j58, getL l' 59 = j59, getL l' 60 = j60, getL l' 61 = j61, getL l' 62 = j62, getL l' 63 = j63, getL l' 64 = j64, getL l' 65 = j65, getL l' 66 = j66, getL l' 67 = j67, getL l' 68 = j68, getL l' 69 = j69, getL l' 70 = j70, getL l' 71 = j71, getL l' 72 = j72, getL l' 73 = j73, getL l' 74 = j74, getL l' 75 = j75, getL l' 76 = j76, getL l' 77 = j77, getL l' 78 = j78, getL l' 79 = j79, getL l' 80 = j80, getL l' 81 = j81 at hl
        subst hl
        cases kf with
        | zero => simp [impl_NearEnds.l1] at H
        | succ kf =>
          rw [impl_NearEnds.l1] at H
          refine HT_seq_k ?_
          intro K1001 hK1001
          refine HT_region ?_
          refine HL_cons rfl ?_
          refine o_bin rfl rfl rfl ?_
          try dsimp only [putL, setL, evL, getL]
          refine HL_nil ?_
          refine hK1001 _ _ ?_
          refine HT_seq_k ?_
          intro K1002 hK1002
          rcases Bool.eq_false_or_eq_true (decide (x807 < (IntKind.i64.wrap ((p1.length : Int) + 1)))) with hb1003 | hb1003
          · replace H := iteT hb1003 H
            refine HT_true (congrArg Value.bool hb1003) ?_
            refine HT_skip ?_
            refine hK1002 _ _ ?_
            refine joinH H fun G1004 hG1004 H => ?_
            refine HT_joinK (fun l' s' => ∃ (x1096 : List (Int)) (A1096 : Option Addr) (c1096 : Nat) (x1097 : List (Int)) (A1097 : Option Addr) (c1097 : Nat), G1004 (x1096, x1097) = some r ∧ l' = [.slice A0p p0.length c0p, .slice A1p p1.length c1p, .int .i64 p2, undef, undef, undef, .slice none 0 0, .bool false, .slice A1096 x1096.length c1096, .slice A1097 x1097.length c1097, getL l' 10, getL l' 11, j12, j13, j14, j15, j16, j17, j18, j19, j20, j21, j22, j23, j24, j25, .bool x25, .slice A35 ([] : List (Int)).length 0, .slice A0p p0.length c0p, .int .i64 (p0.length : Int), .slice A37 u36.length c37, .slice A1p p1.length c1p, .int .i64 (p1.length : Int), .int .i64 (IntKind.i64.wrap ((p1.length : Int) + 1)), .int .i64 x807, .bool (decide (x807 < (IntKind.i64.wrap ((p1.length : Int) + 1)))), getL l' 36, getL l' 37, getL l' 38, getL l' 39, getL l' 40, getL l' 41, getL l' 42, getL l' 43, getL l' 44, getL l' 45, getL l' 46, getL l' 47, getL l' 48, getL l' 49, getL l' 50, getL l' 51, getL l' 52, getL l' 53, getL l' 54, getL l' 55, getL l' 56, getL l' 57, getL l' 58, getL l' 59, getL l' 60, getL l' 61, getL l' 62, getL l' 63, getL l' 64, getL l' 65, getL l' 66, getL l' 67, getL l' 68, getL l' 69, getL l' 70, getL l' 71, getL l' 72, getL l' 73, getL l' 74, getL l' 75, getL l' 76, getL l' 77, getL l' 78, getL l' 79, getL l' 80, j81, undef] ∧ Hp sb s F0 s' [Ck.ol OI 3 A1096 c1096 x1096, Ck.ol OI 3 A1097 c1097 x1097]) ?_ ?_
            · intro K1004 hK1004
              refine HT_block ?_
              refine HT_seq_k ?_
              intro K1098 hK1098
              refine HT_region ?_
              refine HL_cons rfl ?_
              refine o_move ?_
              try dsimp only [putL, setL, evL, getL]
              refine HL_cons rfl ?_
              refine o_assign ?_
              try dsimp only [putL, setL, evL, getL]
              refine HL_nil ?_
              refine hK1098 _ _ ?_
              refine joinH H fun G1099 hG1099 H => ?_
              refine HT_joinK (fun l' s' => ∃ (x1105 : List (Int)) (A1105 : Option Addr) (c1105 : Nat), G1099 x1105 = some r ∧ l' = [.slice A0p p0.length c0p, .slice A1p p1.length c1p, .int .i64 p2, undef, undef, undef, .slice none 0 0, .bool false, .slice A805 x805.length c805, .slice A1105 x1105.length c1105, .int .i64 x807, j11, j12, j13, j14, j15, j16, j17, j18, j19, j20, j21, j22, j23, j24, j25, .bool x25, .slice A35 ([] : List (Int)).length 0, .slice A0p p0.length c0p, .int .i64 (p0.length : Int), .slice A37 u36.length c37, .slice A1p p1.length c1p, .int .i64 (p1.length : Int), .int .i64 (IntKind.i64.wrap ((p1.length : Int) + 1)), .int .i64 x807, .bool (decide (x807 < (IntKind.i64.wrap ((p1.length : Int) + 1)))), .int .i64 x807, getL l' 37, getL l' 38, getL l' 39, getL l' 40, getL l' 41, getL l' 42, getL l' 43, getL l' 44, getL l' 45, getL l' 46, j47, j48, j49, j50, j51, j52, j53, j54, j55, j56, j57, j58, j59, j60, j61, j62, j63, j64, j65, j66, j67, j68, j69, j70, j71, j72, j73, j74, j75, j76, j77, j78, j79, j80, j81, undef] ∧ Hp sb s F0 s' [Ck.ol OI 3 A1105 c1105 x1105, Ck.ol OI 3 A805 c805 x805]) ?_ ?_
              · intro K1099 hK1099
                refine HT_seq_k ?_
                intro K1106 hK1106
                refine HT_region ?_
                refine HL_cons rfl ?_
                refine o_move ?_
                try dsimp only [putL, setL, evL, getL]
                refine HL_cons rfl ?_
                refine o_bin rfl rfl rfl ?_
                try dsimp only [putL, setL, evL, getL]
                refine HL_nil ?_
                refine hK1106 _ _ ?_
                rcases Bool.eq_false_or_eq_true (decide (x807 > 0)) with hb1107 | hb1107
                · replace H := iteT hb1107 H
                  refine HT_true (congrArg Value.bool hb1107) ?_
                  refine HT_region ?_
                  refine HL_cons rfl ?_
                  refine o_move ?_
                  try dsimp only [putL, setL, evL, getL]
                  refine HL_cons rfl ?_
                  refine o_move ?_
                  try dsimp only [putL, setL, evL, getL]
                  refine HL_cons rfl ?_
                  refine o_move ?_
                  try dsimp only [putL, setL, evL, getL]
                  refine HL_cons rfl ?_
                  refine o_bin rfl rfl rfl ?_
                  try dsimp only [putL, setL, evL, getL]
                  obtain ⟨u1108, hu1108, H⟩ := headE H
                  obtain ⟨b1108, o1108, cs1108, hr1108, hh1108, hel1108⟩ := Rd.elb HRp1 hu1108
                  obtain rfl := hr1108
                  refine HL_cons rfl ?_
                  refine hel1108 s1000 rfl rfl Try.underlying22 tI3 ?_
                  try dsimp only [putL, setL, evL, getL]
                  refine HL_cons rfl ?_
                  refine o_load' rfl Try.underlying3 rfl ((hh1108 hH.bs.mono) 0 _ rfl) ?_
                  try dsimp only [putL, setL, evL, getL]
                  refine HL_cons rfl ?_
                  refine o_move ?_
                  try dsimp only [putL, setL, evL, getL]
                  obtain ⟨u1109, hu1109, H⟩ := headE H
                  refine HL_cons rfl ?_
                  refine o_call (args := #[.slice A806 x806.length c806, .int .i64 u1108, .slice A0p p0.length c0p]) Try.func48 rfl rfl rfl (impl_nextRow.ok s1000 s1000 no A806 c806 x806 u1108 A0p c0p p0 (hH.rd 1 rfl) (HRp0.mono hH.bs.mono) (Hp.own (Bs.refl s1000)) _ hu1109) ?_
                  rintro _ s1109 ⟨A1110, c1110, rfl, hD⟩
                  replace hH := hH.back0T hD
                  clear hD
                  dsimp only [addC, setC, rmC, selC, getC] at hH
                  try dsimp only [putL, setL, evL, getL]
                  refine HL_cons rfl ?_
                  refine o_assign ?_
                  try dsimp only [putL, setL, evL, getL]
                  refine HL_nil ?_
                  exact hK1099 _ _ ⟨u1109, A1110, c1110, H, rfl, hH.sel [2, 0] (by decide)⟩
                · replace H := iteF hb1107 H
                  refine HT_false (congrArg Value.bool hb1107) ?_
                  refine HT_skip ?_
                  exact hK1099 _ _ ⟨x806, A806, c806, H, rfl, hH.sel [1, 0] (by decide)⟩
              · rintro l' s1111 ⟨x1105, A1105, c1105, H, hl, hH⟩
                generalize getL l' 37 = j37, getL l' 38 = j38, getL l' 39 = j39, getL l' 40 = j40, getL l' 41 = j41, getL l' 42 = j42, getL l' 43 = j43, getL l' 44 = j44, getL l' 45 = j45, getL l' 46 = j46 at hl
                subst hl
                replace H := hG1099 _ H
                try dsimp only at H
                refine HT_seq_k ?_
                intro K1112 hK1112
                refine HT_region ?_
                refine HL_cons rfl ?_
                refine o_move ?_
                try dsimp only [putL, setL, evL, getL]
                obtain ⟨u1113, hu1113, H⟩ := headE H
                obtain ⟨b1113, o1113, cs1113, hA1113, hr1113, hh1113, hel1113⟩ := hH.elo 0 rfl hu1113
                obtain rfl := hr1113
                refine HL_cons rfl ?_
                refine hel1113 s1111 rfl rfl Try.underlying22 tI3 ?_
                try dsimp only [putL, setL, evL, getL]
                obtain ⟨x1114, hx1114, H⟩ := headE H
                refine HL_cons rfl ?_
                refine o_setF (vs := [.int .i64 0]) (u := 0) hH 0 rfl rfl rfl rfl rfl tI3 hA1113 hx1114 (Ent.own (Ent.flat rfl)) ?_
                intro s1114 hH'
                have hl1114 := st?_len hx1114
                replace hH : Hp sb s F0 s1114 [Ck.ol OI 3 A1105 c1105 x1114, Ck.ol OI 3 A805 c805 x805] := hH'
                clear hH'
                try dsimp only [putL, setL, evL, getL]
                refine HL_nil ?_
                refine hK1112 _ _ ?_
                refine HT_seq_k ?_
                intro K1115 hK1115
                refine HT_seq_k ?_
                intro K1116 hK1116
                refine HT_region ?_
                refine HL_cons rfl ?_
                refine o_move ?_
                try dsimp only [putL, setL, evL, getL]
                refine HL_cons rfl ?_
                refine o_len rfl Try.underlying22 ?_
                try dsimp only [putL, setL, evL, getL]
                refine HL_cons rfl ?_
                refine o_move ?_
                try dsimp only [putL, setL, evL, getL]
                refine HL_nil ?_
                refine hK1116 _ _ ?_
                refine joinH H fun G1117 hG1117 H => ?_
                refine HT_toK (fun l' s' => ∃ (x1150 : List (Int)), G1117 x1150 = some r ∧ l' = [.slice A0p p0.length c0p, .slice A1p p1.length c1p, .int .i64 p2, undef, undef, undef, .slice none 0 0, .bool false, .slice A805 x805.length c805, .slice A1105 x1105.length c1105, .int .i64 x807, getL l' 11, j12, j13, j14, j15, j16, j17, j18, j19, j20, j21, j22, j23, j24, j25, .bool x25, .slice A35 ([] : List (Int)).length 0, .slice A0p p0.length c0p, .int .i64 (p0.length : Int), .slice A37 u36.length c37, .slice A1p p1.length c1p, .int .i64 (p1.length : Int), .int .i64 (IntKind.i64.wrap ((p1.length : Int) + 1)), .int .i64 x807, .bool (decide (x807 < (IntKind.i64.wrap ((p1.length : Int) + 1)))), .int .i64 x807, j37, j38, j39, j40, j41, j42, j43, j44, j45, j46, .slice A1105 x1105.length c1105, .pointer (some ⟨b1113, o1113 + Int.toNat 0 * Kd.sz KI, none⟩), .slice A0p p0.length c0p, .int .i64 (p0.length : Int), getL l' 51, getL l' 52, getL l' 53, getL l' 54, getL l' 55, getL l' 56, getL l' 57, getL l' 58, getL l' 59, getL l' 60, getL l' 61, getL l' 62, getL l' 63, getL l' 64, getL l' 65, getL l' 66, getL l' 67, getL l' 68, getL l' 69, j70, j71, j72, j73, j74, j75, j76, j77, j78, j79, j80, j81, undef] ∧ Hp sb s F0 s' [Ck.ol OI 3 A805 c805 x805, Ck.ol OI 3 A1105 c1105 x1150] ∧ x1150.length = x1105.length) ?_ ?_
                · intro K1117 hK1117
                  refine HT_block ?_
                  refine HT_loopK (fun kf l' s' => ∃ (x1160 : List (Int)) (x1161 : Int), (impl_NearEnds.l2 p0 kf x1160 x1161).bind G1117 = some r ∧ l' = [.slice A0p p0.length c0p, .slice A1p p1.length c1p, .int .i64 p2, undef, undef, undef, .slice none 0 0, .bool false, .slice A805 x805.length c805, .slice A1105 x1105.length c1105, .int .i64 x807, getL l' 11, j12, j13, j14, j15, j16, j17, j18, j19, j20, j21, j22, j23, j24, j25, .bool x25, .slice A35 ([] : List (Int)).length 0, .slice A0p p0.length c0p, .int .i64 (p0.length : Int), .slice A37 u36.length c37, .slice A1p p1.length c1p, .int .i64 (p1.length : Int), .int .i64 (IntKind.i64.wrap ((p1.length : Int) + 1)), .int .i64 x807, .bool (decide (x807 < (IntKind.i64.wrap ((p1.length : Int) + 1)))), .int .i64 x807, j37, j38, j39, j40, j41, j42, j43, j44, j45, j46, .slice A1105 x1105.length c1105, .pointer (some ⟨b1113, o1113 + Int.toNat 0 * Kd.sz KI, none⟩), .slice A0p p0.length c0p, .int .i64 (p0.length : Int), .int .i64 x1161, getL l' 52, getL l' 53, getL l' 54, getL l' 55, getL l' 56, getL l' 57, getL l' 58, getL l' 59, getL l' 60, getL l' 61, getL l' 62, getL l' 63, getL l' 64, getL l' 65, getL l' 66, getL l' 67, getL l' 68, getL l' 69, j70, j71, j72, j73, j74, j75, j76, j77, j78, j79, j80, j81, undef] ∧ Hp sb s F0 s' [Ck.ol OI 3 A805 c805 x805, Ck.ol OI 3 A1105 c1105 x1160] ∧ x1160.length = x1105.length) ((((p0.length : Int)) - (0)).toNat + 2) ⟨x1114, 0, H, rfl, hH.sel [1, 0] (by decide), hl1114⟩ ?_
                  rintro kf l' s1173 ⟨x1160, x1161, H, hl, hH, hl1160⟩ K1173 hK1173
                  generalize getL l' 11 = j11, getL l' 52 = j52, getL l' 53 = j53, getL l' 54 = j54, getL l' 55 = j55, getL l' 56 = j56, getL l' 57 = j57, getL l' 58 = j58, getL l' 59 = j59, getL l' 60 = j60, getL l' 61 = j61, getL l' 62 = j62, getL l' 63 = j63, getL l' 64 = j64, getL l' 65 = j65, getL l' 66 = j66, getL l' 67 = j67, getL l' 68 = j68, getL l' 69 = j69 at hl
                  subst hl
                  cases kf with
                  | zero => simp [impl_NearEnds.l2] at H
                  | succ kf =>
                    rw [impl_NearEnds.l2] at H
                    refine HT_seq_k ?_
                    intro K1174 hK1174
                    refine HT_region ?_
                    refine HL_cons rfl ?_
                    refine o_bin rfl rfl rfl ?_
                    try dsimp only [putL, setL, evL, getL]
                    refine HL_nil ?_
                    refine hK1174 _ _ ?_
                    refine HT_seq_k ?_
                    intro K1175 hK1175
                    rcases Bool.eq_false_or_eq_true (decide (x1161 < (p0.length : Int))) with hb1176 | hb1176
                    · replace H := iteT hb1176 H
                      refine HT_true (congrArg Value.bool hb1176) ?_
                      refine HT_skip ?_
                      refine hK1175 _ _ ?_
                      refine HT_seq_k ?_
                      intro K1177 hK1177
                      refine HT_block ?_
                      refine HT_seq_k ?_
                      intro K1178 hK1178
                      refine HT_region ?_
                      refine HL_cons rfl ?_
                      refine o_move ?_
                      try dsimp only [putL, setL, evL, getL]
                      refine HL_cons rfl ?_
                      refine o_assign ?_
                      try dsimp only [putL, setL, evL, getL]
                      refine HL_nil ?_
                      refine hK1178 _ _ ?_
                      refine HK_draw (fun s' => Gro s1173 s') 15 hMix ?_
                      have hR := Gro.refl s1173
                      have hH0 := hH
                      refine HK_readP 0 (v := .slice A1105 x1105.length c1105) rfl (by kernel_rfl) (fun c l s h => hQp c l s h) rfl (fun s' K hK => ?_) rfl rfl (fun _ => hR) ?_
                      · refine o_move ?_
                        exact hK
                      try dsimp only [putL, setL, evL, getL]
                      refine HK_readP 1 (v := .int .i64 x1161) rfl (by kernel_rfl) (fun c l s h => hQp c l s h) rfl (fun s' K hK => ?_) rfl rfl (fun _ => hR) ?_
                      · refine o_move ?_
                        exact hK
                      try dsimp only [putL, setL, evL, getL]
                      refine HK_readP 2 (v := .int .i64 (IntKind.i64.wrap (x1161 + 1))) rfl (by kernel_rfl) (fun c l s h => hQp c l s h) rfl (fun s' K hK => ?_) rfl rfl (fun _ => hR) ?_
                      · refine o_bin rfl rfl rfl ?_
                        exact hK
                      try dsimp only [putL, setL, evL, getL]
                      refine HK_readP 3 (v := .slice A1105 x1105.length c1105) rfl (by kernel_rfl) (fun c l s h => hQp c l s h) rfl (fun s' K hK => ?_) rfl rfl (fun _ => hR) ?_
                      · refine o_move ?_
                        exact hK
                      try dsimp only [putL, setL, evL, getL]
                      refine HK_readP 4 (v := .int .i64 x1161) rfl (by kernel_rfl) (fun c l s h => hQp c l s h) rfl (fun s' K hK => ?_) rfl rfl (fun _ => hR) ?_
                      · refine o_move ?_
                        exact hK
                      try dsimp only [putL, setL, evL, getL]
                      refine HK_readP 5 (v := .int .i64 (IntKind.i64.wrap (x1161 + 1))) rfl (by kernel_rfl) (fun c l s h => hQp c l s h) rfl (fun s' K hK => ?_) rfl rfl (fun _ => hR) ?_
                      · refine o_bin rfl rfl rfl ?_
                        exact hK
                      try dsimp only [putL, setL, evL, getL]
                      obtain ⟨u1179, hu1179, H⟩ := headE H
                      obtain ⟨b1179, o1179, cs1179, hA1179, hr1179, hh1179, hel1179⟩ := hH0.elo 1 rfl hu1179
                      obtain rfl := hr1179
                      refine HK_readP 6 (v := .pointer (some ⟨b1179, o1179 + Int.toNat (IntKind.i64.wrap (x1161 + 1)) * Kd.sz KI, none⟩)) rfl (by kernel_rfl) (fun c l s h => hQp c l s h) rfl (fun s' K hK => ?_) rfl rfl (fun _ => hR) ?_
                      · refine hel1179 s' (sliceLen hl1160) rfl Try.underlying22 tI3 ?_
                        exact hK
                      try dsimp only [putL, setL, evL, getL]
                      refine HK_read 7 (v := .int .i64 u1179) rfl (by kernel_rfl) (fun c l s h => hQp c l s h) rfl (fun s' hR' K hK => ?_) rfl rfl hR ?_
                      · refine o_load' rfl Try.underlying3 rfl (has_gro hR' (hh1179 0 _ rfl)) ?_
                        exact hK
                      try dsimp only [putL, setL, evL, getL]
                      refine HK_readP 8 (v := .slice A1105 x1105.length c1105) rfl (by kernel_rfl) (fun c l s h => hQp c l s h) rfl (fun s' K hK => ?_) rfl rfl (fun _ => hR) ?_
                      · refine o_move ?_
                        exact hK
                      try dsimp only [putL, setL, evL, getL]
                      refine HK_readP 9 (v := .int .i64 x1161) rfl (by kernel_rfl) (fun c l s h => hQp c l s h) rfl (fun s' K hK => ?_) rfl rfl (fun _ => hR) ?_
                      · refine o_move ?_
                        exact hK
                      try dsimp only [putL, setL, evL, getL]
                      obtain ⟨u1180, hu1180, H⟩ := headE H
                      obtain ⟨b1180, o1180, cs1180, hA1180, hr1180, hh1180, hel1180⟩ := hH0.elo 1 rfl hu1180
                      obtain rfl := hr1180
                      refine HK_readP 10 (v := .pointer (some ⟨b1180, o1180 + Int.toNat x1161 * Kd.sz KI, none⟩)) rfl (by kernel_rfl) (fun c l s h => hQp c l s h) rfl (fun s' K hK => ?_) rfl rfl (fun _ => hR) ?_
                      · refine hel1180 s' (sliceLen hl1160) rfl Try.underlying22 tI3 ?_
                        exact hK
                      try dsimp only [putL, setL, evL, getL]
                      refine HK_read 11 (v := .int .i64 u1180) rfl (by kernel_rfl) (fun c l s h => hQp c l s h) rfl (fun s' hR' K hK => ?_) rfl rfl hR ?_
                      · refine o_load' rfl Try.underlying3 rfl (has_gro hR' (hh1180 0 _ rfl)) ?_
                        exact hK
                      try dsimp only [putL, setL, evL, getL]
                      refine HK_readP 12 (v := .int .i64 (IntKind.i64.wrap (u1180 + 1))) rfl (by kernel_rfl) (fun c l s h => hQp c l s h) rfl (fun s' K hK => ?_) rfl rfl (fun _ => hR) ?_
                      · refine o_bin rfl rfl rfl ?_
                        exact hK
                      try dsimp only [putL, setL, evL, getL]
                      refine HK_readP 13 (v := .int .i64 (min u1179 (IntKind.i64.wrap (u1180 + 1)))) rfl (by kernel_rfl) (fun c l s h => hQp c l s h) rfl (fun s' K hK => ?_) rfl rfl (fun _ => hR) ?_
                      · refine o_min2 rfl rfl ?_
                        exact hK
                      try dsimp only [putL, setL, evL, getL]
                      obtain ⟨u1181, hu1181, H⟩ := headE H
                      obtain ⟨b1181, o1181, cs1181, hA1181, hr1181, hh1181, hel1181⟩ := hH0.elo 1 rfl hu1181
                      obtain rfl := hr1181
                      refine HK_readP 14 (v := .pointer (some ⟨b1181, o1181 + Int.toNat (IntKind.i64.wrap (x1161 + 1)) * Kd.sz KI, none⟩)) rfl (by kernel_rfl) (fun c l s h => hQp c l s h) rfl (fun s' K hK => ?_) rfl rfl (fun _ => hR) ?_
                      · refine hel1181 s' (sliceLen hl1160) rfl Try.underlying22 tI3 ?_
                        exact hK
                      try dsimp only [putL, setL, evL, getL]
                      obtain ⟨x1182, hx1182, H⟩ := headE H
                      refine HK_one 15 (by kernel_rfl) rfl (fun _ => hR) rfl ?_
                      refine o_setF (vs := [.int .i64 (min u1179 (IntKind.i64.wrap (u1180 + 1)))]) (u := min u1179 (IntKind.i64.wrap (u1180 + 1))) hH 1 rfl rfl rfl rfl rfl tI3 hA1181 hx1182 (Ent.own (Ent.flat rfl)) ?_
                      intro s1182 hH'
                      have hl1182 := (st?_len hx1182).trans hl1160
                      replace hH : Hp sb s F0 s1182 [Ck.ol OI 3 A805 c805 x805, Ck.ol OI 3 A1105 c1105 x1182] := hH'
                      clear hH'
                      try dsimp only [putL, setL, evL, getL]
                      refine HK_done' (by kernel_rfl) (by kernel_rfl) ?_
                      refine hK1177 _ _ ?_
                      refine HT_region ?_
                      refine HL_cons rfl ?_
                      refine o_bin rfl rfl rfl ?_
                      try dsimp only [putL, setL, evL, getL]
                      refine HL_cons rfl ?_
                      refine o_move ?_
                      try dsimp only [putL, setL, evL, getL]
                      refine HL_nil ?_
                      exact hK1173 _ _ ⟨kf, Nat.lt_succ_self kf, x1182, IntKind.i64.wrap (x1161 + 1), H, rfl, hH, hl1182⟩
                    · replace H := iteF hb1176 H
                      refine HT_false (congrArg Value.bool hb1176) ?_
                      refine HT_exit ?_
                      exact hK1117 _ _ ⟨x1160, H, rfl, hH, hl1160⟩
                · rintro l' s1183 ⟨x1150, H, hl, hH, hl1150⟩
                  generalize getL l' 11 = j11, getL l' 51 = j51, getL l' 52 = j52, getL l' 53 = j53, getL l' 54 = j54, getL l' 55 = j55, getL l' 56 = j56, getL l' 57 = j57, getL l' 58 = j58, getL l' 59 = j59, getL l' 60 = j60, getL l' 61 = j61, getL l' 62 = j62, getL l' 63 = j63, getL l' 64 = j64, getL l' 65 = j65, getL l' 66 = j66, getL l' 67 = j67, getL l' 68 = j68, getL l' 69 = j69 at hl
                  subst hl
                  replace H := hG1117 _ H
                  try dsimp only at H
                  refine hK1115 _ _ ?_
                  refine HT_seq_k ?_
                  intro K1184 hK1184
                  refine HT_region ?_
                  refine HL_cons rfl ?_
                  refine o_move ?_
                  try dsimp only [putL, setL, evL, getL]
                  refine HL_cons rfl ?_
                  refine o_move ?_
                  try dsimp only [putL, setL, evL, getL]
                  refine HL_cons rfl ?_
                  refine o_len rfl Try.underlying22 ?_
                  try dsimp only [putL, setL, evL, getL]
                  obtain ⟨u1185, hu1185, H⟩ := headE H
                  obtain ⟨b1185, o1185, cs1185, hA1185, hr1185, hh1185, hel1185⟩ := hH.elo 1 rfl hu1185
                  obtain rfl := hr1185
                  refine HL_cons rfl ?_
                  refine hel1185 s1183 (sliceLen hl1150) rfl Try.underlying22 tI3 ?_
                  try dsimp only [putL, setL, evL, getL]
                  refine HL_cons rfl ?_
                  refine o_load' rfl Try.underlying3 rfl (hh1185 0 _ rfl) ?_
                  try dsimp only [putL, setL, evL, getL]
                  refine HL_cons rfl ?_
                  refine o_move ?_
                  try dsimp only [putL, setL, evL, getL]
                  refine HL_cons rfl ?_
                  refine o_bin rfl rfl rfl ?_
                  try dsimp only [putL, setL, evL, getL]
                  refine HL_nil ?_
                  refine hK1184 _ _ ?_
                  rcases Bool.eq_false_or_eq_true (decide (u1185 ≤ p2)) with hb1186 | hb1186
                  · replace H := iteT hb1186 H
                    refine HT_true (congrArg Value.bool hb1186) ?_
                    refine HT_region ?_
                    refine HL_cons rfl ?_
                    refine o_move ?_
                    try dsimp only [putL, setL, evL, getL]
                    refine HL_cons rfl ?_
                    refine o_move ?_
                    try dsimp only [putL, setL, evL, getL]
                    refine HL_cons rfl ?_
                    refine o_litF (K := KI) (O := OI) (ca := #[.int .i64 x807]) [[.int .i64 x807]] [x807] hH Try.underlying22 tI3 rfl (by decide) rfl rfl rfl rfl ⟨rfl, Ent.own (Ent.flat rfl), trivial⟩ ?_
                    intro A1187 s1187 hH' hG
                    replace hH : Hp sb s F0 s1187 [Ck.ol OI 3 A805 c805 x805, Ck.ol OI 3 A1105 c1105 x1150, Ck.ol OI 3 A1187 1 [x807]] := hH'
                    clear hH' hG
                    try dsimp only [putL, setL, evL, getL]
                    obtain ⟨x1188, hx1188, H⟩ := headE H
                    refine HL_cons rfl ?_
                    refine o_appF (K := KI) (n := 17592186044416) (A := A805) (c := c805) (xs := x805) (ys := [x807]) (B := A1187) (c2 := 1) hH 0 rfl rfl rfl rfl Try.underlying22 tI3 rfl (by decide) (by decide) (by decide) (Src.flat (hH.rd 2 rfl)) hx1188 ?_
                    intro A1188 c1188 s1188 hH'
                    replace hH : Hp sb s F0 s1188 [Ck.ol OI 3 A1188 c1188 x1188, Ck.ol OI 3 A1105 c1105 x1150, Ck.ol OI 3 A1187 1 [x807]] := hH'
                    clear hH'
                    try dsimp only [putL, setL, evL, getL]
                    refine HL_cons rfl ?_
                    refine o_assign ?_
                    try dsimp only [putL, setL, evL, getL]
                    refine HL_nil ?_
                    exact hK1004 _ _ ⟨x1188, A1188, c1188, x1150, A1105, c1105, H, (by rw [hl1150]; first | done | rfl), hH.sel [0, 1] (by decide)⟩
                  · replace H := iteF hb1186 H
                    refine HT_false (congrArg Value.bool hb1186) ?_
                    refine HT_skip ?_
                    exact hK1004 _ _ ⟨x805, A805, c805, x1150, A1105, c1105, H, (by rw [hl1150]; first | done | rfl), hH⟩
            · rintro l' s1189 ⟨x1096, A1096, c1096, x1097, A1097, c1097, H, hl, hH⟩
              generalize getL l' 10 = j10, getL l' 11 = j11, getL l' 36 = j36, getL l' 37 = j37, getL l' 38 = j38, getL l' 39 = j39, getL l' 40 = j40, getL l' 41 = j41, getL l' 42 = j42, getL l' 43 = j43, getL l' 44 = j44, getL l' 45 = j45, getL l' 46 = j46, getL l' 47 = j47, getL l' 48 = j48, getL l' 49 = j49, getL l' 50 = j50, getL l' 51 = j51, getL l' 52 = j52, getL l' 53 = j53, getL l' 54 = j54, getL l' 55 = j55, getL l' 56 = j56, getL l' 57 = j57, getL l' 58 = j58, getL l' 59 = j59, getL l' 60 = j60, getL l' 61 = j61, getL l' 62 = j62, getL l' 63 = j63, getL l' 64 = j64, getL l' 65 = j65, getL l' 66 = j66, getL l' 67 = j67, getL l' 68 = j68, getL l' 69 = j69, getL l' 70 = j70, getL l' 71 = j71, getL l' 72 = j72, getL l' 73 = j73, getL l' 74 = j74, getL l' 75 = j75, getL l' 76 = j76, getL l' 77 = j77, getL l' 78 = j78, getL l' 79 = j79, getL l' 80 = j80 at hl
              subst hl
              replace H := hG1004 _ H
              try dsimp only at H
              refine HT_region ?_
              refine HL_cons rfl ?_
              refine o_bin rfl rfl rfl ?_
              try dsimp only [putL, setL, evL, getL]
              refine HL_cons rfl ?_
              refine o_move ?_
              try dsimp only [putL, setL, evL, getL]
              refine HL_nil ?_
              exact hK1000 _ _ ⟨kf, Nat.lt_succ_self kf, x1096, A1096, c1096, x1097, A1097, c1097, IntKind.i64.wrap (x807 + 1), H, rfl, hH⟩
          · replace H := iteF hb1003 H
            refine HT_false (congrArg Value.bool hb1003) ?_
            refine HT_exit ?_
            exact hK40 _ _ ⟨x805, A805, c805, H, rfl, hH.sel [0] (by decide)⟩
      · rintro l' s1190 ⟨x615, A615, c615, H, hl, hH⟩
        generalize getL l' 9 = j9, getL l' 10 = j10, getL l' 11 = j11, getL l' 34 = j34, getL l' 35 = j35, getL l' 36 = j36, getL l' 37 = j37, getL l' 38 = j38, getL l' 39 = j39, getL l' 40 = j40, getL l' 41 = j41, getL l' 42 = j42, getL l' 43 = j43, getL l' 44 = j44, getL l' 45 = j45, getL l' 46 = j46, getL l' 47 = j47, getL l' 48 = j48, getL l' 49 = j49, getL l' 50 = j50, getL l' 51 = j51, getL l' 52 = j52, getL l' 53 = j53, getL l' 54 = j54, getL l' 55 = j55, getL l' 56 = j56, getL l' 57 = j57, getL l' 58 = j58, getL l' 59 = j59, getL l' 60 = j60, getL l' 61 = j61, getL l' 62 = j62, getL l' 63 = j63, getL l' 64 = j64, getL l' 65 = j65, getL l' 66 = j66, getL l' 67 = j67, getL l' 68 = j68, getL l' 69 = j69, getL l' 70 = j70, getL l' 71 = j71, getL l' 72 = j72, getL l' 73 = j73, getL l' 74 = j74, getL l' 75 = j75, getL l' 76 = j76, getL l' 77 = j77, getL l' 78 = j78, getL l' 79 = j79, getL l' 80 = j80, getL l' 81 = j81 at hl
        subst hl
        replace H := hG40 _ H
        try dsimp only at H
        refine hK38 _ _ ?_
        refine HT_seq_k ?_
        intro K1191 hK1191
        refine HT_region ?_
        refine HL_cons rfl ?_
        refine o_move ?_
        try dsimp only [putL, setL, evL, getL]
        refine HL_cons rfl ?_
        refine o_assign ?_
        try dsimp only [putL, setL, evL, getL]
        refine HL_cons rfl ?_
        refine o_assign ?_
        try dsimp only [putL, setL, evL, getL]
        refine HL_nil ?_
        refine hK1191 _ _ ?_
        refine HT_ret ?_
        obtain rfl := Option.some.inj (show some _ = some r from H)
        exact hQr _ _ [.slice A615 x615.length c615, .bool true] ⟨rfl, rfl, trivial⟩ ⟨A615, c615, rfl, hH⟩
end Go.Proofs.Ytihocjbngajjkaa
