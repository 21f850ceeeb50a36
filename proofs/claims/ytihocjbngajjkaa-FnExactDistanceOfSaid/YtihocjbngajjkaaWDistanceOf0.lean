/- The functions that the law reaches, as plain functions, each with its contract: printed by a program of the prover's. No conditions: lemmas. -/
import Derived.Test.YtihocjbngajjkaaProg
import Derived.Test.YtihocjbngajjkaaGL9
set_option linter.unusedVariables false
set_option linter.unusedSimpArgs false
namespace Go.Proofs.Ytihocjbngajjkaa
open Go Go.Proofs.GL
theorem tI3 : TI Try.prog 3 (.int .i64 0) 1 8 := by unfold TI; kernel_rfl
theorem tI22 : TI Try.prog 22 (.slice none 0 0) 1 24 := by unfold TI; kernel_rfl
theorem hMix : Try.prog.follows .mixedOrders = true := by kernel_rfl
def laws_toIntS.l1 (p0 : List (Int)) : Nat → (List (Int)) → Int → Option (List (Int))
  | 0, _, _ => none
  | kf + 1, x41, x42 => if (decide (x42 < (p0.length : Int))) = true then ((rd? p0 x42).bind fun u57 => (rd? x41 x42).bind fun u58 => (st? x41 x42 u57).bind fun x59 => laws_toIntS.l1 p0 kf x59 (IntKind.i64.wrap (x42 + 1))) else (some x41)
def laws_toIntS.f (p0 : List (Int)) : Option (List (Int)) := (mk? 17592186044416 0 (p0.length : Int)).bind fun x3 => (laws_toIntS.l1 p0 ((((p0.length : Int)) - (0)).toNat + 2) x3 0).bind fun (o : (List (Int))) => match o with | x33 => (some x33)
def laws_toIntS.post (s : St) (r : (List (Int))) : Value → St → Prop := fun v s' => ∃ (A0 : Option Addr) (c0 : Nat), v = .slice A0 r.length c0 ∧ Own.is (Kd.int .i64) 3 s' A0 c0 r ∧ NewA s (eff A0 c0) ∧ Sub s s'
set_option maxRecDepth 100000 in
set_option maxHeartbeats 4000000 in
theorem laws_toIntS.ok (s : St) (A0p : Option Addr) (c0p : Nat) (p0 : List (Int)) (HRp0 : Rd (Kd.int .i64) s A0p c0p p0) (r : (List (Int))) (H : laws_toIntS.f p0 = some r) : GCall Try.prog 15 #[.slice A0p p0.length c0p] s (laws_toIntS.post s r) := by
  refine GCall_ofk [.tmp 2] [.slice A0p p0.length c0p, undef, undef, undef, undef, undef, undef, undef, undef, undef, undef, undef, undef, undef, undef, undef, undef, undef, undef, undef, undef, undef] Try.func15 rfl rfl rfl ?_
  intro w Q hQr hQn hQp
  have hS := Sub.refl s
  replace H := topE H
  unfold laws_toIntS.f at H
  refine HT_seq_k ?_
  intro K1 hK1
  refine HT_region ?_
  refine HL_cons rfl ?_
  refine o_assign ?_
  try dsimp only [putL, setL, evL, getL]
  refine HL_nil ?_
  refine hK1 _ _ ?_
  refine HT_seq_k ?_
  intro K2 hK2
  refine HT_region ?_
  refine HL_cons rfl ?_
  refine o_move ?_
  try dsimp only [putL, setL, evL, getL]
  refine HL_cons rfl ?_
  refine o_len rfl Try.underlying22 ?_
  try dsimp only [putL, setL, evL, getL]
  obtain ⟨x3, hx3, H⟩ := headE H
  refine HL_cons rfl ?_
  refine o_make' (K := (Kd.int .i64)) (x0 := 0) rfl Try.underlying22 tI3 rfl (by decide) (by decide) (fun _ => rfl) (by decide) hx3 ?_
  intro A3 c3 s3 O3 N3 hc
  replace N3 := N3.of hS
  have hS' := hS.trans hc
  replace hS := hS'
  clear hS' hc
  try dsimp only [putL, setL, evL, getL]
  refine HL_cons rfl ?_
  refine o_assign ?_
  try dsimp only [putL, setL, evL, getL]
  refine HL_nil ?_
  refine hK2 _ _ ?_
  refine HT_seq_k ?_
  intro K4 hK4
  refine HT_seq_k ?_
  intro K5 hK5
  refine HT_region ?_
  refine HL_cons rfl ?_
  refine o_assign ?_
  try dsimp only [putL, setL, evL, getL]
  refine HL_nil ?_
  refine hK5 _ _ ?_
  refine joinH H fun G6 hG6 H => ?_
  refine HT_toK (fun l' s' => ∃ (x33 : List (Int)) (A33 : Option Addr) (c33 : Nat), G6 x33 = some r ∧ l' = [.slice A0p p0.length c0p, undef, .slice none 0 0, .slice A33 x33.length c33, getL l' 4, .slice A0p p0.length c0p, .int .i64 (p0.length : Int), .slice A3 x3.length c3, getL l' 8, getL l' 9, getL l' 10, getL l' 11, getL l' 12, getL l' 13, getL l' 14, getL l' 15, getL l' 16, getL l' 17, getL l' 18, getL l' 19, getL l' 20, undef] ∧ Sub s s' ∧ Own.is (Kd.int .i64) 3 s' A33 c33 x33 ∧ NewA s (eff A33 c33)) ?_ ?_
  · intro K6 hK6
    refine HT_block ?_
    refine HT_loopK (fun kf l' s' => ∃ (x41 : List (Int)) (A41 : Option Addr) (c41 : Nat) (x42 : Int), (laws_toIntS.l1 p0 kf x41 x42).bind G6 = some r ∧ l' = [.slice A0p p0.length c0p, undef, .slice none 0 0, .slice A41 x41.length c41, .int .i64 x42, .slice A0p p0.length c0p, .int .i64 (p0.length : Int), .slice A3 x3.length c3, getL l' 8, getL l' 9, getL l' 10, getL l' 11, getL l' 12, getL l' 13, getL l' 14, getL l' 15, getL l' 16, getL l' 17, getL l' 18, getL l' 19, getL l' 20, undef] ∧ Sub s s' ∧ Own.is (Kd.int .i64) 3 s' A41 c41 x41 ∧ NewA s (eff A41 c41)) ((((p0.length : Int)) - (0)).toNat + 2) ⟨x3, A3, c3, 0, H, rfl, hS, O3, N3⟩ ?_
    rintro kf l' s52 ⟨x41, A41, c41, x42, H, hl, hS, O41, N41⟩ K52 hK52
    generalize getL l' 8 = j8, getL l' 9 = j9, getL l' 10 = j10, getL l' 11 = j11, getL l' 12 = j12, getL l' 13 = j13, getL l' 14 = j14, getL l' 15 = j15, getL l' 16 = j16, getL l' 17 = j17, getL l' 18 = j18, getL l' 19 = j19, getL l' 20 = j20 at hl
    subst hl
    cases kf with
    | zero => simp [laws_toIntS.l1] at H
    | succ kf =>
      rw [laws_toIntS.l1] at H
      refine HT_seq_k ?_
      intro K53 hK53
      refine HT_seq_k ?_
      intro K54 hK54
      refine HT_region ?_
      refine HL_cons rfl ?_
      refine o_move ?_
      try dsimp only [putL, setL, evL, getL]
      refine HL_cons rfl ?_
      refine o_move ?_
      try dsimp only [putL, setL, evL, getL]
      refine HL_cons rfl ?_
      refine o_len rfl Try.underlying22 ?_
      try dsimp only [putL, setL, evL, getL]
      refine HL_cons rfl ?_
      refine o_bin rfl rfl rfl ?_
      try dsimp only [putL, setL, evL, getL]
      refine HL_nil ?_
      refine hK54 _ _ ?_
      rcases Bool.eq_false_or_eq_true (decide (x42 < (p0.length : Int))) with hb55 | hb55
      · replace H := iteT hb55 H
        refine HT_true (congrArg Value.bool hb55) ?_
        refine HT_skip ?_
        refine hK53 _ _ ?_
        refine HT_seq_k ?_
        intro K56 hK56
        refine HT_block ?_
        refine HT_region ?_
        refine HL_cons rfl ?_
        refine o_move ?_
        try dsimp only [putL, setL, evL, getL]
        refine HL_cons rfl ?_
        refine o_move ?_
        try dsimp only [putL, setL, evL, getL]
        refine HL_cons rfl ?_
        refine o_move ?_
        try dsimp only [putL, setL, evL, getL]
        refine HL_cons rfl ?_
        refine o_move ?_
        try dsimp only [putL, setL, evL, getL]
        obtain ⟨u57, hu57, H⟩ := headE H
        refine HL_cons rfl ?_
        refine o_el (K := (Kd.int .i64)) (xs := p0) rfl rfl Try.underlying22 tI3 (HRp0.mono hS.mono) hu57 ?_
        intro b57 o57 cs57 hr57 hh57
        obtain rfl := hr57
        try dsimp only [putL, setL, evL, getL]
        refine HL_cons rfl ?_
        refine o_load' rfl Try.underlying3 rfl (hh57 0 _ rfl) ?_
        try dsimp only [putL, setL, evL, getL]
        obtain ⟨u58, hu58, H⟩ := headE H
        refine HL_cons rfl ?_
        refine o_elo (K := (Kd.int .i64)) (xs := x41) rfl rfl Try.underlying22 tI3 O41 hu58 ?_
        intro b58 cs58 hA58 hr58 hh58
        obtain rfl := hr58
        try dsimp only [putL, setL, evL, getL]
        obtain ⟨x59, hx59, H⟩ := headE H
        refine HL_cons rfl ?_
        refine o_seto' (K := (Kd.int .i64)) (u := u57) rfl rfl rfl rfl tI3 hA58 O41 hx59 rfl (Kd.int_flat _) ?_
        intro s59 O' hc
        have hS' := hS.alt hc N41
        replace hS := hS'
        clear hS' hc
        replace O41 := O'
        clear O'
        have hl59 := st?_len hx59
        rw [← hl59]
        try dsimp only [putL, setL, evL, getL]
        refine HL_nil ?_
        refine hK56 _ _ ?_
        refine HT_region ?_
        refine HL_cons rfl ?_
        refine o_move ?_
        try dsimp only [putL, setL, evL, getL]
        refine HL_cons rfl ?_
        refine o_bin rfl rfl rfl ?_
        try dsimp only [putL, setL, evL, getL]
        refine HL_cons rfl ?_
        refine o_assign ?_
        try dsimp only [putL, setL, evL, getL]
        refine HL_nil ?_
        exact hK52 _ _ ⟨kf, Nat.lt_succ_self kf, x59, A41, c41, IntKind.i64.wrap (x42 + 1), H, rfl, hS, O41, N41⟩
      · replace H := iteF hb55 H
        refine HT_false (congrArg Value.bool hb55) ?_
        refine HT_exit ?_
        exact hK6 _ _ ⟨x41, A41, c41, H, rfl, hS, O41, N41⟩
  · rintro l' s60 ⟨x33, A33, c33, H, hl, hS, O33, N33⟩
    generalize getL l' 4 = j4, getL l' 8 = j8, getL l' 9 = j9, getL l' 10 = j10, getL l' 11 = j11, getL l' 12 = j12, getL l' 13 = j13, getL l' 14 = j14, getL l' 15 = j15, getL l' 16 = j16, getL l' 17 = j17, getL l' 18 = j18, getL l' 19 = j19, getL l' 20 = j20 at hl
    subst hl
    replace H := hG6 _ H
    try dsimp only at H
    refine hK4 _ _ ?_
    refine HT_seq_k ?_
    intro K61 hK61
    refine HT_region ?_
    refine HL_cons rfl ?_
    refine o_move ?_
    try dsimp only [putL, setL, evL, getL]
    refine HL_cons rfl ?_
    refine o_assign ?_
    try dsimp only [putL, setL, evL, getL]
    refine HL_nil ?_
    refine hK61 _ _ ?_
    refine HT_ret ?_
    obtain rfl := Option.some.inj (show some _ = some r from H)
    exact hQr _ _ [.slice A33 x33.length c33] ⟨rfl, trivial⟩ ⟨A33, c33, rfl, O33, N33, hS⟩
def spec_l1In.f (p0 : Int) (p1 : Int) (p2 : Int) : Option Bool := if (decide (p0 ≥ p1)) = true then (some (decide (p0 ≤ p2))) else (some false)
def spec_l1In.post (s : St) (r : Bool) : Value → St → Prop := fun v s' => v = .bool r ∧ Sub s s'
set_option maxRecDepth 100000 in
set_option maxHeartbeats 4000000 in
theorem spec_l1In.ok (s : St) (p0 : Int) (p1 : Int) (p2 : Int) (r : Bool) (H : spec_l1In.f p0 p1 p2 = some r) : GCall Try.prog 31 #[.int .i64 p0, .int .i64 p1, .int .i64 p2] s (spec_l1In.post s r) := by
  refine GCall_ofk [.tmp 6] [.int .i64 p0, .int .i64 p1, .int .i64 p2, undef, undef, undef, undef, undef, undef, undef, undef, undef, undef, undef, undef] Try.func31 rfl rfl rfl ?_
  intro w Q hQr hQn hQp
  have hS := Sub.refl s
  replace H := topE H
  unfold spec_l1In.f at H
  refine HT_seq_k ?_
  intro K1 hK1
  refine HT_region ?_
  refine HL_cons rfl ?_
  refine o_assign ?_
  try dsimp only [putL, setL, evL, getL]
  refine HL_nil ?_
  refine hK1 _ _ ?_
  refine HT_seq_k ?_
  intro K2 hK2
  refine HT_region ?_
  refine HL_cons rfl ?_
  refine o_move ?_
  try dsimp only [putL, setL, evL, getL]
  refine HL_cons rfl ?_
  refine o_move ?_
  try dsimp only [putL, setL, evL, getL]
  refine HL_cons rfl ?_
  refine o_bin rfl rfl rfl ?_
  try dsimp only [putL, setL, evL, getL]
  refine HL_cons rfl ?_
  refine o_move ?_
  try dsimp only [putL, setL, evL, getL]
  rcases Bool.eq_false_or_eq_true (decide (p0 ≥ p1)) with hb3 | hb3
  · replace H := iteT hb3 H
    refine HL_want ?_ ?_
    · exact wantT (j := 3) (b := true) (t := 10) (c := decide (p0 ≥ p1)) rfl rfl rfl rfl hb3
    refine o_move ?_
    try dsimp only [putL, setL, evL, getL]
    refine HL_want ?_ ?_
    · exact wantT (j := 3) (b := true) (t := 10) (c := decide (p0 ≥ p1)) rfl rfl rfl rfl hb3
    refine o_move ?_
    try dsimp only [putL, setL, evL, getL]
    refine HL_want ?_ ?_
    · exact wantT (j := 3) (b := true) (t := 10) (c := decide (p0 ≥ p1)) rfl rfl rfl rfl hb3
    refine o_bin rfl rfl rfl ?_
    try dsimp only [putL, setL, evL, getL]
    refine HL_cons rfl ?_
    refine o_pickT rfl hb3 ?_
    try dsimp only [putL, setL, evL, getL]
    refine HL_cons rfl ?_
    refine o_assign ?_
    try dsimp only [putL, setL, evL, getL]
    refine HL_nil ?_
    refine hK2 _ _ ?_
    refine HT_ret ?_
    obtain rfl := Option.some.inj (show some _ = some r from H)
    exact hQr _ _ [.bool (decide (p0 ≤ p2))] ⟨rfl, trivial⟩ ⟨rfl, hS⟩
  · replace H := iteF hb3 H
    refine HL_skip ?_ ?_
    · exact wantF (j := 3) (b := true) (t := 10) (c := decide (p0 ≥ p1)) rfl rfl rfl rfl hb3
    try dsimp only [putL, setL, evL, getL]
    refine HL_skip ?_ ?_
    · exact wantF (j := 3) (b := true) (t := 10) (c := decide (p0 ≥ p1)) rfl rfl rfl rfl hb3
    try dsimp only [putL, setL, evL, getL]
    refine HL_skip ?_ ?_
    · exact wantF (j := 3) (b := true) (t := 10) (c := decide (p0 ≥ p1)) rfl rfl rfl rfl hb3
    try dsimp only [putL, setL, evL, getL]
    refine HL_cons rfl ?_
    refine o_pickF rfl hb3 ?_
    try dsimp only [putL, setL, evL, getL]
    refine HL_cons rfl ?_
    refine o_assign ?_
    try dsimp only [putL, setL, evL, getL]
    refine HL_nil ?_
    refine hK2 _ _ ?_
    refine HT_ret ?_
    obtain rfl := Option.some.inj (show some _ = some r from H)
    exact hQr _ _ [.bool false] ⟨rfl, trivial⟩ ⟨rfl, hS⟩
def spec_GoodRune.f (p0 : Int) : Option Bool := (spec_l1In.f p0 0 1114111).bind fun u3 => if u3 = true then ((spec_l1In.f p0 55296 57343).bind fun u5 => some (!u5)) else (some false)
def spec_GoodRune.post (s : St) (r : Bool) : Value → St → Prop := fun v s' => v = .bool r ∧ Sub s s'
set_option maxRecDepth 100000 in
set_option maxHeartbeats 4000000 in
theorem spec_GoodRune.ok (s : St) (p0 : Int) (r : Bool) (H : spec_GoodRune.f p0 = some r) : GCall Try.prog 55 #[.int .i64 p0] s (spec_GoodRune.post s r) := by
  refine GCall_ofk [.tmp 2] [.int .i64 p0, undef, undef, undef, undef, undef, undef, undef, undef, undef] Try.func55 rfl rfl rfl ?_
  intro w Q hQr hQn hQp
  have hS := Sub.refl s
  replace H := topE H
  unfold spec_GoodRune.f at H
  refine HT_seq_k ?_
  intro K1 hK1
  refine HT_region ?_
  refine HL_cons rfl ?_
  refine o_assign ?_
  try dsimp only [putL, setL, evL, getL]
  refine HL_nil ?_
  refine hK1 _ _ ?_
  refine HT_seq_k ?_
  intro K2 hK2
  refine HT_region ?_
  refine HL_cons rfl ?_
  refine o_move ?_
  try dsimp only [putL, setL, evL, getL]
  obtain ⟨u3, hu3, H⟩ := headE H
  refine HL_cons rfl ?_
  refine o_call (args := #[.int .i64 p0, .int .i64 0, .int .i64 1114111]) Try.func31 rfl rfl rfl (spec_l1In.ok s p0 0 1114111 _ hu3) ?_
  rintro _ s3 ⟨rfl, hc⟩
  have hS' := hS.trans hc
  replace hS := hS'
  clear hS' hc
  try dsimp only [putL, setL, evL, getL]
  refine HL_cons rfl ?_
  refine o_move ?_
  try dsimp only [putL, setL, evL, getL]
  rcases Bool.eq_false_or_eq_true u3 with hb4 | hb4
  · replace H := iteT hb4 H
    refine HL_want ?_ ?_
    · exact wantT (j := 2) (b := true) (t := 5) (c := u3) rfl rfl rfl rfl hb4
    refine o_move ?_
    try dsimp only [putL, setL, evL, getL]
    obtain ⟨u5, hu5, H⟩ := headE H
    refine HL_want ?_ ?_
    · exact wantT (j := 2) (b := true) (t := 5) (c := u3) rfl rfl rfl rfl hb4
    refine o_call (args := #[.int .i64 p0, .int .i64 55296, .int .i64 57343]) Try.func31 rfl rfl rfl (spec_l1In.ok s3 p0 55296 57343 _ hu5) ?_
    rintro _ s5 ⟨rfl, hc⟩
    have hS' := hS.trans hc
    replace hS := hS'
    clear hS' hc
    try dsimp only [putL, setL, evL, getL]
    refine HL_want ?_ ?_
    · exact wantT (j := 2) (b := true) (t := 5) (c := u3) rfl rfl rfl rfl hb4
    refine o_not rfl ?_
    try dsimp only [putL, setL, evL, getL]
    refine HL_cons rfl ?_
    refine o_pickT rfl hb4 ?_
    try dsimp only [putL, setL, evL, getL]
    refine HL_cons rfl ?_
    refine o_assign ?_
    try dsimp only [putL, setL, evL, getL]
    refine HL_nil ?_
    refine hK2 _ _ ?_
    refine HT_ret ?_
    obtain rfl := Option.some.inj (show some _ = some r from H)
    exact hQr _ _ [.bool (!u5)] ⟨rfl, trivial⟩ ⟨rfl, hS⟩
  · replace H := iteF hb4 H
    refine HL_skip ?_ ?_
    · exact wantF (j := 2) (b := true) (t := 5) (c := u3) rfl rfl rfl rfl hb4
    try dsimp only [putL, setL, evL, getL]
    refine HL_skip ?_ ?_
    · exact wantF (j := 2) (b := true) (t := 5) (c := u3) rfl rfl rfl rfl hb4
    try dsimp only [putL, setL, evL, getL]
    refine HL_skip ?_ ?_
    · exact wantF (j := 2) (b := true) (t := 5) (c := u3) rfl rfl rfl rfl hb4
    try dsimp only [putL, setL, evL, getL]
    refine HL_cons rfl ?_
    refine o_pickF rfl hb4 ?_
    try dsimp only [putL, setL, evL, getL]
    refine HL_cons rfl ?_
    refine o_assign ?_
    try dsimp only [putL, setL, evL, getL]
    refine HL_nil ?_
    refine hK2 _ _ ?_
    refine HT_ret ?_
    obtain rfl := Option.some.inj (show some _ = some r from H)
    exact hQr _ _ [.bool false] ⟨rfl, trivial⟩ ⟨rfl, hS⟩
def spec_l1AllRunes.l1 (p0 : List (Int)) : Nat → Int → Option (Lo Unit Bool)
  | 0, _ => none
  | kf + 1, x48 => if (decide (x48 < (p0.length : Int))) = true then ((rd? p0 x48).bind fun u66 => (spec_GoodRune.f u66).bind fun u68 => if (!u68) = true then ((some false).bind fun z => some (Lo.ret z)) else (spec_l1AllRunes.l1 p0 kf (IntKind.i64.wrap (x48 + 1)))) else (some (Lo.go ()))
def spec_l1AllRunes.f (p0 : List (Int)) : Option Bool := (spec_l1AllRunes.l1 p0 ((((p0.length : Int)) - (0)).toNat + 2) 0).bind fun (o : Lo Unit Bool) => match o with | .go () => (some (decide ((p0.length : Int) ≤ 1000))) | .ret z => some z
def spec_l1AllRunes.post (s : St) (r : Bool) : Value → St → Prop := fun v s' => v = .bool r ∧ Sub s s'
set_option maxRecDepth 100000 in
set_option maxHeartbeats 4000000 in
theorem spec_l1AllRunes.ok (s : St) (A0p : Option Addr) (c0p : Nat) (p0 : List (Int)) (HRp0 : Rd (Kd.int .i64) s A0p c0p p0) (r : Bool) (H : spec_l1AllRunes.f p0 = some r) : GCall Try.prog 32 #[.slice A0p p0.length c0p] s (spec_l1AllRunes.post s r) := by
  refine GCall_ofk [.tmp 2] [.slice A0p p0.length c0p, undef, undef, undef, undef, undef, undef, undef, undef, undef, undef, undef, undef, undef, undef, undef, undef, undef] Try.func32 rfl rfl rfl ?_
  intro w Q hQr hQn hQp
  have hS := Sub.refl s
  replace H := topE H
  unfold spec_l1AllRunes.f at H
  refine HT_seq_k ?_
  intro K1 hK1
  refine HT_region ?_
  refine HL_cons rfl ?_
  refine o_assign ?_
  try dsimp only [putL, setL, evL, getL]
  refine HL_nil ?_
  refine hK1 _ _ ?_
  refine HT_seq_k ?_
  intro K2 hK2
  refine HT_seq_k ?_
  intro K3 hK3
  refine HT_region ?_
  refine HL_cons rfl ?_
  refine o_move ?_
  try dsimp only [putL, setL, evL, getL]
  refine HL_cons rfl ?_
  refine o_len rfl Try.underlying22 ?_
  try dsimp only [putL, setL, evL, getL]
  refine HL_cons rfl ?_
  refine o_move ?_
  try dsimp only [putL, setL, evL, getL]
  refine HL_nil ?_
  refine hK3 _ _ ?_
  refine joinH H fun G4 hG4 H => ?_
  refine HT_toK (fun l' s' => G4 (.go ()) = some r ∧ l' = [.slice A0p p0.length c0p, undef, getL l' 2, undef, getL l' 4, .slice A0p p0.length c0p, .int .i64 (p0.length : Int), getL l' 7, getL l' 8, getL l' 9, getL l' 10, getL l' 11, getL l' 12, getL l' 13, getL l' 14, undef, undef, undef] ∧ Sub s s') ?_ ?_
  · intro K4 hK4
    refine HT_block ?_
    refine HT_loopK (fun kf l' s' => ∃ (x48 : Int), (spec_l1AllRunes.l1 p0 kf x48).bind G4 = some r ∧ l' = [.slice A0p p0.length c0p, undef, getL l' 2, undef, getL l' 4, .slice A0p p0.length c0p, .int .i64 (p0.length : Int), .int .i64 x48, getL l' 8, getL l' 9, getL l' 10, getL l' 11, getL l' 12, getL l' 13, getL l' 14, undef, undef, undef] ∧ Sub s s') ((((p0.length : Int)) - (0)).toNat + 2) ⟨0, H, rfl, hS⟩ ?_
    rintro kf l' s60 ⟨x48, H, hl, hS⟩ K60 hK60
    generalize getL l' 2 = j2, getL l' 4 = j4, getL l' 8 = j8, getL l' 9 = j9, getL l' 10 = j10, getL l' 11 = j11, getL l' 12 = j12, getL l' 13 = j13, getL l' 14 = j14 at hl
    subst hl
    cases kf with
    | zero => simp [spec_l1AllRunes.l1] at H
    | succ kf =>
      rw [spec_l1AllRunes.l1] at H
      refine HT_seq_k ?_
      intro K61 hK61
      refine HT_region ?_
      refine HL_cons rfl ?_
      refine o_bin rfl rfl rfl ?_
      try dsimp only [putL, setL, evL, getL]
      refine HL_nil ?_
      refine hK61 _ _ ?_
      refine HT_seq_k ?_
      intro K62 hK62
      rcases Bool.eq_false_or_eq_true (decide (x48 < (p0.length : Int))) with hb63 | hb63
      · replace H := iteT hb63 H
        refine HT_true (congrArg Value.bool hb63) ?_
        refine HT_skip ?_
        refine hK62 _ _ ?_
        refine HT_seq_k ?_
        intro K64 hK64
        refine HT_block ?_
        refine HT_seq_k ?_
        intro K65 hK65
        refine HT_region ?_
        obtain ⟨u66, hu66, H⟩ := headE H
        refine HL_cons rfl ?_
        refine o_el (K := (Kd.int .i64)) (xs := p0) rfl rfl Try.underlying22 tI3 (HRp0.mono hS.mono) hu66 ?_
        intro b66 o66 cs66 hr66 hh66
        obtain rfl := hr66
        try dsimp only [putL, setL, evL, getL]
        refine HL_cons rfl ?_
        refine o_load' rfl Try.underlying3 rfl (hh66 0 _ rfl) ?_
        try dsimp only [putL, setL, evL, getL]
        refine HL_cons rfl ?_
        refine o_assign ?_
        try dsimp only [putL, setL, evL, getL]
        refine HL_nil ?_
        refine hK65 _ _ ?_
        refine HT_seq_k ?_
        intro K67 hK67
        refine HT_region ?_
        refine HL_cons rfl ?_
        refine o_move ?_
        try dsimp only [putL, setL, evL, getL]
        obtain ⟨u68, hu68, H⟩ := headE H
        refine HL_cons rfl ?_
        refine o_call (args := #[.int .i64 u66]) Try.func55 rfl rfl rfl (spec_GoodRune.ok s60 u66 _ hu68) ?_
        rintro _ s68 ⟨rfl, hc⟩
        have hS' := hS.trans hc
        replace hS := hS'
        clear hS' hc
        try dsimp only [putL, setL, evL, getL]
        refine HL_cons rfl ?_
        refine o_not rfl ?_
        try dsimp only [putL, setL, evL, getL]
        refine HL_nil ?_
        refine hK67 _ _ ?_
        rcases Bool.eq_false_or_eq_true (!u68) with hb69 | hb69
        · replace H := iteT hb69 H
          refine HT_true (congrArg Value.bool hb69) ?_
          refine HT_seq_k ?_
          intro K70 hK70
          refine HT_region ?_
          refine HL_cons rfl ?_
          refine o_assign ?_
          try dsimp only [putL, setL, evL, getL]
          refine HL_nil ?_
          refine hK70 _ _ ?_
          refine HT_ret ?_
          replace H := escH (fun z hz => hG4 _ hz) H
          obtain rfl := Option.some.inj (show some _ = some r from H)
          exact hQr _ _ [.bool false] ⟨rfl, trivial⟩ ⟨rfl, hS⟩
        · replace H := iteF hb69 H
          refine HT_false (congrArg Value.bool hb69) ?_
          refine HT_skip ?_
          refine hK64 _ _ ?_
          refine HT_region ?_
          refine HL_cons rfl ?_
          refine o_bin rfl rfl rfl ?_
          try dsimp only [putL, setL, evL, getL]
          refine HL_cons rfl ?_
          refine o_move ?_
          try dsimp only [putL, setL, evL, getL]
          refine HL_nil ?_
          exact hK60 _ _ ⟨kf, Nat.lt_succ_self kf, IntKind.i64.wrap (x48 + 1), H, rfl, hS⟩
      · replace H := iteF hb63 H
        refine HT_false (congrArg Value.bool hb63) ?_
        refine HT_exit ?_
        exact hK4 _ _ ⟨H, rfl, hS⟩
  · rintro l' s71 ⟨H, hl, hS⟩
    generalize getL l' 2 = j2, getL l' 4 = j4, getL l' 7 = j7, getL l' 8 = j8, getL l' 9 = j9, getL l' 10 = j10, getL l' 11 = j11, getL l' 12 = j12, getL l' 13 = j13, getL l' 14 = j14 at hl
    subst hl
    replace H := hG4 _ H
    try dsimp only at H
    refine hK2 _ _ ?_
    refine HT_seq_k ?_
    intro K72 hK72
    refine HT_region ?_
    refine HL_cons rfl ?_
    refine o_move ?_
    try dsimp only [putL, setL, evL, getL]
    refine HL_cons rfl ?_
    refine o_len rfl Try.underlying22 ?_
    try dsimp only [putL, setL, evL, getL]
    refine HL_cons rfl ?_
    refine o_bin rfl rfl rfl ?_
    try dsimp only [putL, setL, evL, getL]
    refine HL_cons rfl ?_
    refine o_assign ?_
    try dsimp only [putL, setL, evL, getL]
    refine HL_nil ?_
    refine hK72 _ _ ?_
    refine HT_ret ?_
    obtain rfl := Option.some.inj (show some _ = some r from H)
    exact hQr _ _ [.bool (decide ((p0.length : Int) ≤ 1000))] ⟨rfl, trivial⟩ ⟨rfl, hS⟩
def spec_l15List.f (p0 : List (Int)) : Option Bool := (spec_l1AllRunes.f p0).bind fun u3 => if u3 = true then (some (decide ((p0.length : Int) ≤ 60))) else (some false)
def spec_l15List.post (s : St) (r : Bool) : Value → St → Prop := fun v s' => v = .bool r ∧ Sub s s'
set_option maxRecDepth 100000 in
set_option maxHeartbeats 4000000 in
theorem spec_l15List.ok (s : St) (A0p : Option Addr) (c0p : Nat) (p0 : List (Int)) (HRp0 : Rd (Kd.int .i64) s A0p c0p p0) (r : Bool) (H : spec_l15List.f p0 = some r) : GCall Try.prog 39 #[.slice A0p p0.length c0p] s (spec_l15List.post s r) := by
  refine GCall_ofk [.tmp 2] [.slice A0p p0.length c0p, undef, undef, undef, undef, undef, undef, undef, undef, undef] Try.func39 rfl rfl rfl ?_
  intro w Q hQr hQn hQp
  have hS := Sub.refl s
  replace H := topE H
  unfold spec_l15List.f at H
  refine HT_seq_k ?_
  intro K1 hK1
  refine HT_region ?_
  refine HL_cons rfl ?_
  refine o_assign ?_
  try dsimp only [putL, setL, evL, getL]
  refine HL_nil ?_
  refine hK1 _ _ ?_
  refine HT_seq_k ?_
  intro K2 hK2
  refine HT_region ?_
  refine HL_cons rfl ?_
  refine o_move ?_
  try dsimp only [putL, setL, evL, getL]
  obtain ⟨u3, hu3, H⟩ := headE H
  refine HL_cons rfl ?_
  refine o_call (args := #[.slice A0p p0.length c0p]) Try.func32 rfl rfl rfl (spec_l1AllRunes.ok s A0p c0p p0 (HRp0.mono hS.mono) _ hu3) ?_
  rintro _ s3 ⟨rfl, hc⟩
  have hS' := hS.trans hc
  replace hS := hS'
  clear hS' hc
  try dsimp only [putL, setL, evL, getL]
  refine HL_cons rfl ?_
  refine o_move ?_
  try dsimp only [putL, setL, evL, getL]
  rcases Bool.eq_false_or_eq_true u3 with hb4 | hb4
  · replace H := iteT hb4 H
    refine HL_want ?_ ?_
    · exact wantT (j := 2) (b := true) (t := 5) (c := u3) rfl rfl rfl rfl hb4
    refine o_move ?_
    try dsimp only [putL, setL, evL, getL]
    refine HL_want ?_ ?_
    · exact wantT (j := 2) (b := true) (t := 5) (c := u3) rfl rfl rfl rfl hb4
    refine o_len rfl Try.underlying22 ?_
    try dsimp only [putL, setL, evL, getL]
    refine HL_want ?_ ?_
    · exact wantT (j := 2) (b := true) (t := 5) (c := u3) rfl rfl rfl rfl hb4
    refine o_bin rfl rfl rfl ?_
    try dsimp only [putL, setL, evL, getL]
    refine HL_cons rfl ?_
    refine o_pickT rfl hb4 ?_
    try dsimp only [putL, setL, evL, getL]
    refine HL_cons rfl ?_
    refine o_assign ?_
    try dsimp only [putL, setL, evL, getL]
    refine HL_nil ?_
    refine hK2 _ _ ?_
    refine HT_ret ?_
    obtain rfl := Option.some.inj (show some _ = some r from H)
    exact hQr _ _ [.bool (decide ((p0.length : Int) ≤ 60))] ⟨rfl, trivial⟩ ⟨rfl, hS⟩
  · replace H := iteF hb4 H
    refine HL_skip ?_ ?_
    · exact wantF (j := 2) (b := true) (t := 5) (c := u3) rfl rfl rfl rfl hb4
    try dsimp only [putL, setL, evL, getL]
    refine HL_skip ?_ ?_
    · exact wantF (j := 2) (b := true) (t := 5) (c := u3) rfl rfl rfl rfl hb4
    try dsimp only [putL, setL, evL, getL]
    refine HL_skip ?_ ?_
    · exact wantF (j := 2) (b := true) (t := 5) (c := u3) rfl rfl rfl rfl hb4
    try dsimp only [putL, setL, evL, getL]
    refine HL_cons rfl ?_
    refine o_pickF rfl hb4 ?_
    try dsimp only [putL, setL, evL, getL]
    refine HL_cons rfl ?_
    refine o_assign ?_
    try dsimp only [putL, setL, evL, getL]
    refine HL_nil ?_
    refine hK2 _ _ ?_
    refine HT_ret ?_
    obtain rfl := Option.some.inj (show some _ = some r from H)
    exact hQr _ _ [.bool false] ⟨rfl, trivial⟩ ⟨rfl, hS⟩
def spec_l15Numbers.l1 (p0 : Int) : Nat → (List (Int)) → Int → Option (List (Int))
  | 0, _, _ => none
  | kf + 1, x36, x37 => if (decide (x37 < p0)) = true then ((app? 17592186044416 x36 [x37]).bind fun x52 => spec_l15Numbers.l1 p0 kf x52 (IntKind.i64.wrap (x37 + 1))) else (some x36)
def spec_l15Numbers.f (p0 : Int) : Option (List (Int)) := (spec_l15Numbers.l1 p0 (((p0) - (0)).toNat + 2) [] 0).bind fun (o : (List (Int))) => match o with | x29 => (some x29)
def spec_l15Numbers.post (s : St) (r : (List (Int))) : Value → St → Prop := fun v s' => ∃ (A0 : Option Addr) (c0 : Nat), v = .slice A0 r.length c0 ∧ Own.is (Kd.int .i64) 3 s' A0 c0 r ∧ NewA s (eff A0 c0) ∧ Sub s s'
set_option maxRecDepth 100000 in
set_option maxHeartbeats 4000000 in
theorem spec_l15Numbers.ok (s : St) (p0 : Int) (r : (List (Int))) (H : spec_l15Numbers.f p0 = some r) : GCall Try.prog 45 #[.int .i64 p0] s (spec_l15Numbers.post s r) := by
  refine GCall_ofk [.tmp 2] [.int .i64 p0, undef, undef, undef, undef, undef, undef, undef, undef, undef, undef, undef, undef, undef, undef] Try.func45 rfl rfl rfl ?_
  intro w Q hQr hQn hQp
  have hS := Sub.refl s
  replace H := topE H
  unfold spec_l15Numbers.f at H
  refine HT_seq_k ?_
  intro K1 hK1
  refine HT_region ?_
  refine HL_cons rfl ?_
  refine o_assign ?_
  try dsimp only [putL, setL, evL, getL]
  refine HL_nil ?_
  refine hK1 _ _ ?_
  refine HT_seq_k ?_
  intro K2 hK2
  refine HT_region ?_
  refine HL_cons rfl ?_
  refine o_assign ?_
  try dsimp only [putL, setL, evL, getL]
  refine HL_nil ?_
  refine hK2 _ _ ?_
  refine HT_seq_k ?_
  intro K3 hK3
  refine HT_seq_k ?_
  intro K4 hK4
  refine HT_region ?_
  refine HL_cons rfl ?_
  refine o_assign ?_
  try dsimp only [putL, setL, evL, getL]
  refine HL_nil ?_
  refine hK4 _ _ ?_
  refine joinH H fun G5 hG5 H => ?_
  refine HT_toK (fun l' s' => ∃ (x29 : List (Int)) (A29 : Option Addr) (c29 : Nat), G5 x29 = some r ∧ l' = [.int .i64 p0, undef, .slice none 0 0, .slice A29 x29.length c29, getL l' 4, getL l' 5, getL l' 6, getL l' 7, getL l' 8, getL l' 9, getL l' 10, getL l' 11, getL l' 12, getL l' 13, undef] ∧ Sub s s' ∧ Own.is (Kd.int .i64) 3 s' A29 c29 x29 ∧ NewA s (eff A29 c29)) ?_ ?_
  · intro K5 hK5
    refine HT_block ?_
    refine HT_loopK (fun kf l' s' => ∃ (x36 : List (Int)) (A36 : Option Addr) (c36 : Nat) (x37 : Int), (spec_l15Numbers.l1 p0 kf x36 x37).bind G5 = some r ∧ l' = [.int .i64 p0, undef, .slice none 0 0, .slice A36 x36.length c36, .int .i64 x37, getL l' 5, getL l' 6, getL l' 7, getL l' 8, getL l' 9, getL l' 10, getL l' 11, getL l' 12, getL l' 13, undef] ∧ Sub s s' ∧ Own.is (Kd.int .i64) 3 s' A36 c36 x36 ∧ NewA s (eff A36 c36)) (((p0) - (0)).toNat + 2) ⟨[], none, 0, 0, H, rfl, hS, (Own.nil _ _ _), (NewA.none _)⟩ ?_
    rintro kf l' s46 ⟨x36, A36, c36, x37, H, hl, hS, O36, N36⟩ K46 hK46
    generalize getL l' 5 = j5, getL l' 6 = j6, getL l' 7 = j7, getL l' 8 = j8, getL l' 9 = j9, getL l' 10 = j10, getL l' 11 = j11, getL l' 12 = j12, getL l' 13 = j13 at hl
    subst hl
    cases kf with
    | zero => simp [spec_l15Numbers.l1] at H
    | succ kf =>
      rw [spec_l15Numbers.l1] at H
      refine HT_seq_k ?_
      intro K47 hK47
      refine HT_seq_k ?_
      intro K48 hK48
      refine HT_region ?_
      refine HL_cons rfl ?_
      refine o_move ?_
      try dsimp only [putL, setL, evL, getL]
      refine HL_cons rfl ?_
      refine o_move ?_
      try dsimp only [putL, setL, evL, getL]
      refine HL_cons rfl ?_
      refine o_bin rfl rfl rfl ?_
      try dsimp only [putL, setL, evL, getL]
      refine HL_nil ?_
      refine hK48 _ _ ?_
      rcases Bool.eq_false_or_eq_true (decide (x37 < p0)) with hb49 | hb49
      · replace H := iteT hb49 H
        refine HT_true (congrArg Value.bool hb49) ?_
        refine HT_skip ?_
        refine hK47 _ _ ?_
        refine HT_seq_k ?_
        intro K50 hK50
        refine HT_block ?_
        refine HT_region ?_
        refine HL_cons rfl ?_
        refine o_move ?_
        try dsimp only [putL, setL, evL, getL]
        refine HL_cons rfl ?_
        refine o_move ?_
        try dsimp only [putL, setL, evL, getL]
        refine HL_cons rfl ?_
        refine o_lit' (K := (Kd.int .i64)) (cs := #[.int .i64 x37]) [[.int .i64 x37]] [x37] Try.underlying22 tI3 rfl (by decide) rfl rfl rfl rfl ⟨rfl, trivial⟩ ?_
        intro A51 s51 O51 N51 hc
        have P36_51 := O36.apart N51
        replace N51 := N51.of hS
        have hS' := hS.trans hc
        replace O36 := O36.sub hc
        replace hS := hS'
        clear hS' hc
        try dsimp only [putL, setL, evL, getL]
        obtain ⟨x52, hx52, H⟩ := headE H
        refine HL_cons rfl ?_
        refine o_append' (K := (Kd.int .i64)) (n := 17592186044416) (A := A36) (c := c36) (xs := x36) (ys := [x37]) (B := A51) (c2 := 1) rfl rfl Try.underlying22 tI3 rfl (by decide) (by decide) (by decide) O36 O51.rd hx52 ?_
        rintro _ s52 ⟨A52, c52, rfl, O52, hc, hA52⟩
        have N52 := NewA.step hA52 N36 hS
        have P51_52 := Apart.step (P36_51.symm) hA52 O51
        have hS' := hS.app hc N36
        replace O51 := O51.chg hc (fun b hb => (P36_51.symm) b hb)
        replace hS := hS'
        clear hS' hc
        try dsimp only [putL, setL, evL, getL]
        refine HL_cons rfl ?_
        refine o_assign ?_
        try dsimp only [putL, setL, evL, getL]
        refine HL_nil ?_
        refine hK50 _ _ ?_
        refine HT_region ?_
        refine HL_cons rfl ?_
        refine o_move ?_
        try dsimp only [putL, setL, evL, getL]
        refine HL_cons rfl ?_
        refine o_bin rfl rfl rfl ?_
        try dsimp only [putL, setL, evL, getL]
        refine HL_cons rfl ?_
        refine o_assign ?_
        try dsimp only [putL, setL, evL, getL]
        refine HL_nil ?_
        exact hK46 _ _ ⟨kf, Nat.lt_succ_self kf, x52, A52, c52, IntKind.i64.wrap (x37 + 1), H, rfl, hS, O52, N52⟩
      · replace H := iteF hb49 H
        refine HT_false (congrArg Value.bool hb49) ?_
        refine HT_exit ?_
        exact hK5 _ _ ⟨x36, A36, c36, H, rfl, hS, O36, N36⟩
  · rintro l' s53 ⟨x29, A29, c29, H, hl, hS, O29, N29⟩
    generalize getL l' 4 = j4, getL l' 5 = j5, getL l' 6 = j6, getL l' 7 = j7, getL l' 8 = j8, getL l' 9 = j9, getL l' 10 = j10, getL l' 11 = j11, getL l' 12 = j12, getL l' 13 = j13 at hl
    subst hl
    replace H := hG5 _ H
    try dsimp only at H
    refine hK3 _ _ ?_
    refine HT_seq_k ?_
    intro K54 hK54
    refine HT_region ?_
    refine HL_cons rfl ?_
    refine o_move ?_
    try dsimp only [putL, setL, evL, getL]
    refine HL_cons rfl ?_
    refine o_assign ?_
    try dsimp only [putL, setL, evL, getL]
    refine HL_nil ?_
    refine hK54 _ _ ?_
    refine HT_ret ?_
    obtain rfl := Option.some.inj (show some _ = some r from H)
    exact hQr _ _ [.slice A29 x29.length c29] ⟨rfl, trivial⟩ ⟨A29, c29, rfl, O29, N29, hS⟩
def spec_l1Least.f (p0 : Int) (p1 : Int) : Option Int := if (decide (p0 < p1)) = true then (some p0) else (some p1)
def spec_l1Least.post (s : St) (r : Int) : Value → St → Prop := fun v s' => v = .int .i64 r ∧ Sub s s'
set_option maxRecDepth 100000 in
set_option maxHeartbeats 4000000 in
theorem spec_l1Least.ok (s : St) (p0 : Int) (p1 : Int) (r : Int) (H : spec_l1Least.f p0 p1 = some r) : GCall Try.prog 60 #[.int .i64 p0, .int .i64 p1] s (spec_l1Least.post s r) := by
  refine GCall_ofk [.tmp 4] [.int .i64 p0, .int .i64 p1, undef, undef, undef, undef, undef, undef, undef, undef] Try.func60 rfl rfl rfl ?_
  intro w Q hQr hQn hQp
  have hS := Sub.refl s
  replace H := topE H
  unfold spec_l1Least.f at H
  refine HT_seq_k ?_
  intro K1 hK1
  refine HT_region ?_
  refine HL_cons rfl ?_
  refine o_assign ?_
  try dsimp only [putL, setL, evL, getL]
  refine HL_nil ?_
  refine hK1 _ _ ?_
  refine HT_seq_k ?_
  intro K2 hK2
  refine HT_seq_k ?_
  intro K3 hK3
  refine HT_region ?_
  refine HL_cons rfl ?_
  refine o_move ?_
  try dsimp only [putL, setL, evL, getL]
  refine HL_cons rfl ?_
  refine o_move ?_
  try dsimp only [putL, setL, evL, getL]
  refine HL_cons rfl ?_
  refine o_bin rfl rfl rfl ?_
  try dsimp only [putL, setL, evL, getL]
  refine HL_nil ?_
  refine hK3 _ _ ?_
  rcases Bool.eq_false_or_eq_true (decide (p0 < p1)) with hb4 | hb4
  · replace H := iteT hb4 H
    refine HT_true (congrArg Value.bool hb4) ?_
    refine HT_seq_k ?_
    intro K5 hK5
    refine HT_region ?_
    refine HL_cons rfl ?_
    refine o_move ?_
    try dsimp only [putL, setL, evL, getL]
    refine HL_cons rfl ?_
    refine o_assign ?_
    try dsimp only [putL, setL, evL, getL]
    refine HL_nil ?_
    refine hK5 _ _ ?_
    refine HT_ret ?_
    obtain rfl := Option.some.inj (show some _ = some r from H)
    exact hQr _ _ [.int .i64 p0] ⟨rfl, trivial⟩ ⟨rfl, hS⟩
  · replace H := iteF hb4 H
    refine HT_false (congrArg Value.bool hb4) ?_
    refine HT_skip ?_
    refine hK2 _ _ ?_
    refine HT_seq_k ?_
    intro K6 hK6
    refine HT_region ?_
    refine HL_cons rfl ?_
    refine o_move ?_
    try dsimp only [putL, setL, evL, getL]
    refine HL_cons rfl ?_
    refine o_assign ?_
    try dsimp only [putL, setL, evL, getL]
    refine HL_nil ?_
    refine hK6 _ _ ?_
    refine HT_ret ?_
    obtain rfl := Option.some.inj (show some _ = some r from H)
    exact hQr _ _ [.int .i64 p1] ⟨rfl, trivial⟩ ⟨rfl, hS⟩
def spec_l15Row.l1 (p0 : List (Int)) (p1 : Int) (p2 : List (Int)) : Nat → (List (Int)) → Int → Option (List (Int))
  | 0, _, _ => none
  | kf + 1, x177, x178 => if (decide (x178 < (p2.length : Int))) = true then ((rd? p2 x178).bind fun u247 => (rd? p0 x178).bind fun u249 => (if (u247 != p1) = true then (some (IntKind.i64.wrap (u249 + 1))) else (some u249)).bind fun (o : Int) => match o with | x253 => ((rd? p0 (IntKind.i64.wrap (x178 + 1))).bind fun u258 => (rd? x177 x178).bind fun u259 => (spec_l1Least.f u258 u259).bind fun u260 => (spec_l1Least.f x253 (IntKind.i64.wrap (u260 + 1))).bind fun u261 => (app? 17592186044416 x177 [u261]).bind fun x263 => spec_l15Row.l1 p0 p1 p2 kf x263 (IntKind.i64.wrap (x178 + 1)))) else (some x177)
def spec_l15Row.f (p0 : List (Int)) (p1 : Int) (p2 : List (Int)) (p3 : Int) : Option (List (Int)) := (spec_l15Row.l1 p0 p1 p2 ((((p2.length : Int)) - (0)).toNat + 2) [p3] 0).bind fun (o : (List (Int))) => match o with | x135 => (some x135)
def spec_l15Row.post (s : St) (r : (List (Int))) : Value → St → Prop := fun v s' => ∃ (A0 : Option Addr) (c0 : Nat), v = .slice A0 r.length c0 ∧ Own.is (Kd.int .i64) 3 s' A0 c0 r ∧ NewA s (eff A0 c0) ∧ Sub s s'
set_option maxRecDepth 100000 in
set_option maxHeartbeats 4000000 in
theorem spec_l15Row.ok (s : St) (A0p : Option Addr) (c0p : Nat) (p0 : List (Int)) (p1 : Int) (A2p : Option Addr) (c2p : Nat) (p2 : List (Int)) (p3 : Int) (HRp0 : Rd (Kd.int .i64) s A0p c0p p0) (HRp2 : Rd (Kd.int .i64) s A2p c2p p2) (r : (List (Int))) (H : spec_l15Row.f p0 p1 p2 p3 = some r) : GCall Try.prog 46 #[.slice A0p p0.length c0p, .int .i64 p1, .slice A2p p2.length c2p, .int .i64 p3] s (spec_l15Row.post s r) := by
  refine GCall_ofk [.tmp 8] [.slice A0p p0.length c0p, .int .i64 p1, .slice A2p p2.length c2p, .int .i64 p3, undef, undef, undef, undef, undef, undef, undef, undef, undef, undef, undef, undef, undef, undef, undef, undef, undef, undef, undef, undef, undef, undef, undef, undef, undef, undef, undef, undef, undef, undef, undef, undef, undef, undef, undef, undef, undef, undef, undef, undef, undef, undef, undef, undef, undef, undef] Try.func46 rfl rfl rfl ?_
  intro w Q hQr hQn hQp
  have hS := Sub.refl s
  replace H := topE H
  unfold spec_l15Row.f at H
  refine HT_seq_k ?_
  intro K1 hK1
  refine HT_region ?_
  refine HL_cons rfl ?_
  refine o_assign ?_
  try dsimp only [putL, setL, evL, getL]
  refine HL_nil ?_
  refine hK1 _ _ ?_
  refine HT_seq_k ?_
  intro K2 hK2
  refine HT_region ?_
  refine HL_cons rfl ?_
  refine o_move ?_
  try dsimp only [putL, setL, evL, getL]
  refine HL_cons rfl ?_
  refine o_lit' (K := (Kd.int .i64)) (cs := #[.int .i64 p3]) [[.int .i64 p3]] [p3] Try.underlying22 tI3 rfl (by decide) rfl rfl rfl rfl ⟨rfl, trivial⟩ ?_
  intro A3 s3 O3 N3 hc
  replace N3 := N3.of hS
  have hS' := hS.trans hc
  replace hS := hS'
  clear hS' hc
  try dsimp only [putL, setL, evL, getL]
  refine HL_cons rfl ?_
  refine o_assign ?_
  try dsimp only [putL, setL, evL, getL]
  refine HL_nil ?_
  refine hK2 _ _ ?_
  refine HT_seq_k ?_
  intro K4 hK4
  refine HT_seq_k ?_
  intro K5 hK5
  refine HT_region ?_
  refine HL_cons rfl ?_
  refine o_move ?_
  try dsimp only [putL, setL, evL, getL]
  refine HL_cons rfl ?_
  refine o_len rfl Try.underlying22 ?_
  try dsimp only [putL, setL, evL, getL]
  refine HL_cons rfl ?_
  refine o_move ?_
  try dsimp only [putL, setL, evL, getL]
  refine HL_nil ?_
  refine hK5 _ _ ?_
  refine joinH H fun G6 hG6 H => ?_
  refine HT_toK (fun l' s' => ∃ (x135 : List (Int)) (A135 : Option Addr) (c135 : Nat), G6 x135 = some r ∧ l' = [.slice A0p p0.length c0p, .int .i64 p1, .slice A2p p2.length c2p, .int .i64 p3, undef, undef, undef, undef, .slice none 0 0, .slice A135 x135.length c135, getL l' 10, getL l' 11, getL l' 12, .int .i64 p3, .slice A3 [p3].length 1, .slice A2p p2.length c2p, .int .i64 (p2.length : Int), getL l' 17, getL l' 18, getL l' 19, getL l' 20, getL l' 21, getL l' 22, getL l' 23, getL l' 24, getL l' 25, getL l' 26, getL l' 27, getL l' 28, getL l' 29, getL l' 30, getL l' 31, getL l' 32, getL l' 33, getL l' 34, getL l' 35, getL l' 36, getL l' 37, getL l' 38, getL l' 39, getL l' 40, getL l' 41, getL l' 42, getL l' 43, getL l' 44, getL l' 45, getL l' 46, getL l' 47, getL l' 48, undef] ∧ Sub s s' ∧ Own.is (Kd.int .i64) 3 s' A135 c135 x135 ∧ NewA s (eff A135 c135)) ?_ ?_
  · intro K6 hK6
    refine HT_block ?_
    refine HT_loopK (fun kf l' s' => ∃ (x177 : List (Int)) (A177 : Option Addr) (c177 : Nat) (x178 : Int), (spec_l15Row.l1 p0 p1 p2 kf x177 x178).bind G6 = some r ∧ l' = [.slice A0p p0.length c0p, .int .i64 p1, .slice A2p p2.length c2p, .int .i64 p3, undef, undef, undef, undef, .slice none 0 0, .slice A177 x177.length c177, getL l' 10, getL l' 11, getL l' 12, .int .i64 p3, .slice A3 [p3].length 1, .slice A2p p2.length c2p, .int .i64 (p2.length : Int), .int .i64 x178, getL l' 18, getL l' 19, getL l' 20, getL l' 21, getL l' 22, getL l' 23, getL l' 24, getL l' 25, getL l' 26, getL l' 27, getL l' 28, getL l' 29, getL l' 30, getL l' 31, getL l' 32, getL l' 33, getL l' 34, getL l' 35, getL l' 36, getL l' 37, getL l' 38, getL l' 39, getL l' 40, getL l' 41, getL l' 42, getL l' 43, getL l' 44, getL l' 45, getL l' 46, getL l' 47, getL l' 48, undef] ∧ Sub s s' ∧ Own.is (Kd.int .i64) 3 s' A177 c177 x177 ∧ NewA s (eff A177 c177)) ((((p2.length : Int)) - (0)).toNat + 2) ⟨[p3], A3, 1, 0, H, rfl, hS, O3, N3⟩ ?_
    rintro kf l' s222 ⟨x177, A177, c177, x178, H, hl, hS, O177, N177⟩ K222 hK222
    generalize getL l' 10 = j10, getL l' 11 = j11, getL l' 12 = j12, getL l' 18 = j18, getL l' 19 = j19, getL l' 20 = j20, getL l' 21 = j21, getL l' 22 = j22, getL l' 23 = j23, getL l' 24 = j24, getL l' 25 = j25, getL l' 26 = j26, getL l' 27 = j27, getL l' 28 = j28, getL l' 29 = j29, getL l' 30 = j30, getL l' 31 = j31, getL l' 32 = j32, getL l' 33 = j33, getL l' 34 = j34, getL l' 35 = j35, getL l' 36 = j36, getL l' 37 = j37, getL l' 38 = j38, getL l' 39 = j39, getL l' 40 = j40, getL l' 41 = j41, getL l' 42 = j42, getL l' 43 = j43, getL l' 44 = j44, getL l' 45 = j45, getL l' 46 = j46, getL l' 47 = j47, getL l' 48 = j48 at hl
    subst hl
    cases kf with
    | zero => simp [spec_l15Row.l1] at H
    | succ kf =>
      rw [spec_l15Row.l1] at H
      refine HT_seq_k ?_
      intro K223 hK223
      refine HT_region ?_
      refine HL_cons rfl ?_
      refine o_bin rfl rfl rfl ?_
      try dsimp only [putL, setL, evL, getL]
      refine HL_nil ?_
      refine hK223 _ _ ?_
      refine HT_seq_k ?_
      intro K224 hK224
      rcases Bool.eq_false_or_eq_true (decide (x178 < (p2.length : Int))) with hb225 | hb225
      · replace H := iteT hb225 H
        refine HT_true (congrArg Value.bool hb225) ?_
        refine HT_skip ?_
        refine hK224 _ _ ?_
        refine HT_seq_k ?_
        intro K245 hK245
        refine HT_block ?_
        refine HT_seq_k ?_
        intro K246 hK246
        refine HT_region ?_
        refine HL_cons rfl ?_
        refine o_move ?_
        try dsimp only [putL, setL, evL, getL]
        obtain ⟨u247, hu247, H⟩ := headE H
        refine HL_cons rfl ?_
        refine o_el (K := (Kd.int .i64)) (xs := p2) rfl rfl Try.underlying22 tI3 (HRp2.mono hS.mono) hu247 ?_
        intro b247 o247 cs247 hr247 hh247
        obtain rfl := hr247
        try dsimp only [putL, setL, evL, getL]
        refine HL_cons rfl ?_
        refine o_load' rfl Try.underlying3 rfl (hh247 0 _ rfl) ?_
        try dsimp only [putL, setL, evL, getL]
        refine HL_cons rfl ?_
        refine o_assign ?_
        try dsimp only [putL, setL, evL, getL]
        refine HL_cons rfl ?_
        refine o_assign ?_
        try dsimp only [putL, setL, evL, getL]
        refine HL_nil ?_
        refine hK246 _ _ ?_
        refine HT_seq_k ?_
        intro K248 hK248
        refine HT_region ?_
        refine HL_cons rfl ?_
        refine o_move ?_
        try dsimp only [putL, setL, evL, getL]
        refine HL_cons rfl ?_
        refine o_move ?_
        try dsimp only [putL, setL, evL, getL]
        obtain ⟨u249, hu249, H⟩ := headE H
        refine HL_cons rfl ?_
        refine o_el (K := (Kd.int .i64)) (xs := p0) rfl rfl Try.underlying22 tI3 (HRp0.mono hS.mono) hu249 ?_
        intro b249 o249 cs249 hr249 hh249
        obtain rfl := hr249
        try dsimp only [putL, setL, evL, getL]
        refine HL_cons rfl ?_
        refine o_load' rfl Try.underlying3 rfl (hh249 0 _ rfl) ?_
        try dsimp only [putL, setL, evL, getL]
        refine HL_cons rfl ?_
        refine o_assign ?_
        try dsimp only [putL, setL, evL, getL]
        refine HL_nil ?_
        refine hK248 _ _ ?_
        refine joinH H fun G250 hG250 H => ?_
        refine HT_joinK (fun l' s' => ∃ (x253 : Int), G250 x253 = some r ∧ l' = [.slice A0p p0.length c0p, .int .i64 p1, .slice A2p p2.length c2p, .int .i64 p3, undef, undef, undef, undef, .slice none 0 0, .slice A177 x177.length c177, .int .i64 x178, .int .i64 u247, .int .i64 x253, .int .i64 p3, .slice A3 [p3].length 1, .slice A2p p2.length c2p, .int .i64 (p2.length : Int), .int .i64 x178, .bool (decide (x178 < (p2.length : Int))), .int .i64 x178, .pointer (some ⟨b247, o247, none⟩), .int .i64 u247, .slice A0p p0.length c0p, .int .i64 x178, .pointer (some ⟨b249, o249, none⟩), .int .i64 u249, getL l' 26, getL l' 27, getL l' 28, getL l' 29, getL l' 30, j31, j32, j33, j34, j35, j36, j37, j38, j39, j40, j41, j42, j43, j44, j45, j46, j47, j48, undef] ∧ Sub s s' ∧ Own.is (Kd.int .i64) 3 s' A177 c177 x177 ∧ NewA s (eff A177 c177)) ?_ ?_
        · intro K250 hK250
          refine HT_seq_k ?_
          intro K254 hK254
          refine HT_region ?_
          refine HL_cons rfl ?_
          refine o_move ?_
          try dsimp only [putL, setL, evL, getL]
          refine HL_cons rfl ?_
          refine o_move ?_
          try dsimp only [putL, setL, evL, getL]
          refine HL_cons rfl ?_
          refine o_bin rfl rfl rfl ?_
          try dsimp only [putL, setL, evL, getL]
          refine HL_nil ?_
          refine hK254 _ _ ?_
          rcases Bool.eq_false_or_eq_true (u247 != p1) with hb255 | hb255
          · replace H := iteT hb255 H
            refine HT_true (congrArg Value.bool hb255) ?_
            refine HT_region ?_
            refine HL_cons rfl ?_
            refine o_move ?_
            try dsimp only [putL, setL, evL, getL]
            refine HL_cons rfl ?_
            refine o_bin rfl rfl rfl ?_
            try dsimp only [putL, setL, evL, getL]
            refine HL_cons rfl ?_
            refine o_assign ?_
            try dsimp only [putL, setL, evL, getL]
            refine HL_nil ?_
            exact hK250 _ _ ⟨IntKind.i64.wrap (u249 + 1), H, rfl, hS, O177, N177⟩
          · replace H := iteF hb255 H
            refine HT_false (congrArg Value.bool hb255) ?_
            refine HT_skip ?_
            exact hK250 _ _ ⟨u249, H, rfl, hS, O177, N177⟩
        · rintro l' s256 ⟨x253, H, hl, hS, O177, N177⟩
          generalize getL l' 26 = j26, getL l' 27 = j27, getL l' 28 = j28, getL l' 29 = j29, getL l' 30 = j30 at hl
          subst hl
          replace H := hG250 _ H
          try dsimp only at H
          refine HT_seq_k ?_
          intro K257 hK257
          refine HK_draw (fun s' => Gro s256 s') 15 hMix ?_
          have hR := Gro.refl s256
          refine HK_read 0 (v := .int .i64 x253) rfl (by kernel_rfl) (fun c l s h => hQp c l s h) rfl (fun s' hR' K hK => ?_) rfl rfl hR ?_
          · refine o_move ?_
            exact hK
          try dsimp only [putL, setL, evL, getL]
          refine HK_read 1 (v := .slice A0p p0.length c0p) rfl (by kernel_rfl) (fun c l s h => hQp c l s h) rfl (fun s' hR' K hK => ?_) rfl rfl hR ?_
          · refine o_move ?_
            exact hK
          try dsimp only [putL, setL, evL, getL]
          refine HK_read 2 (v := .int .i64 x178) rfl (by kernel_rfl) (fun c l s h => hQp c l s h) rfl (fun s' hR' K hK => ?_) rfl rfl hR ?_
          · refine o_move ?_
            exact hK
          try dsimp only [putL, setL, evL, getL]
          refine HK_read 3 (v := .int .i64 (IntKind.i64.wrap (x178 + 1))) rfl (by kernel_rfl) (fun c l s h => hQp c l s h) rfl (fun s' hR' K hK => ?_) rfl rfl hR ?_
          · refine o_bin rfl rfl rfl ?_
            exact hK
          try dsimp only [putL, setL, evL, getL]
          obtain ⟨u258, hu258, H⟩ := headE H
          obtain ⟨b258, o258, cs258, hr258, hh258, hel258⟩ := Rd.el (HRp0.mono hS.mono) hu258
          obtain rfl := hr258
          refine HK_read 4 (v := .pointer (some ⟨b258, o258, none⟩)) rfl (by kernel_rfl) (fun c l s h => hQp c l s h) rfl (fun s' hR' K hK => ?_) rfl rfl hR ?_
          · refine hel258 s' rfl rfl Try.underlying22 tI3 ?_
            exact hK
          try dsimp only [putL, setL, evL, getL]
          refine HK_read 5 (v := .int .i64 u258) rfl (by kernel_rfl) (fun c l s h => hQp c l s h) rfl (fun s' hR' K hK => ?_) rfl rfl hR ?_
          · refine o_load' rfl Try.underlying3 rfl (has_gro hR' (hh258 0 _ rfl)) ?_
            exact hK
          try dsimp only [putL, setL, evL, getL]
          refine HK_read 6 (v := .slice A177 x177.length c177) rfl (by kernel_rfl) (fun c l s h => hQp c l s h) rfl (fun s' hR' K hK => ?_) rfl rfl hR ?_
          · refine o_move ?_
            exact hK
          try dsimp only [putL, setL, evL, getL]
          refine HK_read 7 (v := .int .i64 x178) rfl (by kernel_rfl) (fun c l s h => hQp c l s h) rfl (fun s' hR' K hK => ?_) rfl rfl hR ?_
          · refine o_move ?_
            exact hK
          try dsimp only [putL, setL, evL, getL]
          obtain ⟨u259, hu259, H⟩ := headE H
          obtain ⟨b259, o259, cs259, hr259, hh259, hel259⟩ := Rd.el O177.rd hu259
          obtain rfl := hr259
          refine HK_read 8 (v := .pointer (some ⟨b259, o259, none⟩)) rfl (by kernel_rfl) (fun c l s h => hQp c l s h) rfl (fun s' hR' K hK => ?_) rfl rfl hR ?_
          · refine hel259 s' rfl rfl Try.underlying22 tI3 ?_
            exact hK
          try dsimp only [putL, setL, evL, getL]
          refine HK_read 9 (v := .int .i64 u259) rfl (by kernel_rfl) (fun c l s h => hQp c l s h) rfl (fun s' hR' K hK => ?_) rfl rfl hR ?_
          · refine o_load' rfl Try.underlying3 rfl (has_gro hR' (hh259 0 _ rfl)) ?_
            exact hK
          try dsimp only [putL, setL, evL, getL]
          obtain ⟨u260, hu260, H⟩ := headE H
          refine HK_one 10 (by kernel_rfl) rfl (fun _ => hR) rfl ?_
          refine o_call (args := #[.int .i64 u258, .int .i64 u259]) Try.func60 rfl rfl rfl (spec_l1Least.ok s256 u258 u259 _ hu260) ?_
          rintro _ s260 ⟨rfl, hc⟩
          replace hR := hR.trans (Sub.chg hc)
          have hS' := hS.trans hc
          replace O177 := O177.sub hc
          replace hS := hS'
          clear hS' hc
          try dsimp only [putL, setL, evL, getL]
          refine HK_read 11 (v := .int .i64 (IntKind.i64.wrap (u260 + 1))) rfl (by kernel_rfl) (fun c l s h => hQp c l s h) rfl (fun s' hR' K hK => ?_) rfl rfl hR ?_
          · refine o_bin rfl rfl rfl ?_
            exact hK
          try dsimp only [putL, setL, evL, getL]
          obtain ⟨u261, hu261, H⟩ := headE H
          refine HK_one 12 (by kernel_rfl) rfl (fun _ => hR) rfl ?_
          refine o_call (args := #[.int .i64 x253, .int .i64 (IntKind.i64.wrap (u260 + 1))]) Try.func60 rfl rfl rfl (spec_l1Least.ok s260 x253 (IntKind.i64.wrap (u260 + 1)) _ hu261) ?_
          rintro _ s261 ⟨rfl, hc⟩
          replace hR := hR.trans (Sub.chg hc)
          have hS' := hS.trans hc
          replace O177 := O177.sub hc
          replace hS := hS'
          clear hS' hc
          try dsimp only [putL, setL, evL, getL]
          refine HK_one 13 (by kernel_rfl) rfl (fun _ => hR) rfl ?_
          refine o_assign ?_
          try dsimp only [putL, setL, evL, getL]
          refine HK_done (fun _ => hR) (by kernel_rfl) ?_
          refine hK257 _ _ ?_
          refine HT_region ?_
          refine HL_cons rfl ?_
          refine o_move ?_
          try dsimp only [putL, setL, evL, getL]
          refine HL_cons rfl ?_
          refine o_move ?_
          try dsimp only [putL, setL, evL, getL]
          refine HL_cons rfl ?_
          refine o_lit' (K := (Kd.int .i64)) (cs := #[.int .i64 u261]) [[.int .i64 u261]] [u261] Try.underlying22 tI3 rfl (by decide) rfl rfl rfl rfl ⟨rfl, trivial⟩ ?_
          intro A262 s262 O262 N262 hc
          have P177_262 := O177.apart N262
          replace N262 := N262.of hS
          have hS' := hS.trans hc
          replace O177 := O177.sub hc
          replace hS := hS'
          clear hS' hc
          try dsimp only [putL, setL, evL, getL]
          obtain ⟨x263, hx263, H⟩ := headE H
          refine HL_cons rfl ?_
          refine o_append' (K := (Kd.int .i64)) (n := 17592186044416) (A := A177) (c := c177) (xs := x177) (ys := [u261]) (B := A262) (c2 := 1) rfl rfl Try.underlying22 tI3 rfl (by decide) (by decide) (by decide) O177 O262.rd hx263 ?_
          rintro _ s263 ⟨A263, c263, rfl, O263, hc, hA263⟩
          have N263 := NewA.step hA263 N177 hS
          have P262_263 := Apart.step (P177_262.symm) hA263 O262
          have hS' := hS.app hc N177
          replace O262 := O262.chg hc (fun b hb => (P177_262.symm) b hb)
          replace hS := hS'
          clear hS' hc
          try dsimp only [putL, setL, evL, getL]
          refine HL_cons rfl ?_
          refine o_assign ?_
          try dsimp only [putL, setL, evL, getL]
          refine HL_nil ?_
          refine hK245 _ _ ?_
          refine HT_region ?_
          refine HL_cons rfl ?_
          refine o_bin rfl rfl rfl ?_
          try dsimp only [putL, setL, evL, getL]
          refine HL_cons rfl ?_
          refine o_move ?_
          try dsimp only [putL, setL, evL, getL]
          refine HL_nil ?_
          exact hK222 _ _ ⟨kf, Nat.lt_succ_self kf, x263, A263, c263, IntKind.i64.wrap (x178 + 1), H, rfl, hS, O263, N263⟩
      · replace H := iteF hb225 H
        refine HT_false (congrArg Value.bool hb225) ?_
        refine HT_exit ?_
        exact hK6 _ _ ⟨x177, A177, c177, H, rfl, hS, O177, N177⟩
  · rintro l' s264 ⟨x135, A135, c135, H, hl, hS, O135, N135⟩
    generalize getL l' 10 = j10, getL l' 11 = j11, getL l' 12 = j12, getL l' 17 = j17, getL l' 18 = j18, getL l' 19 = j19, getL l' 20 = j20, getL l' 21 = j21, getL l' 22 = j22, getL l' 23 = j23, getL l' 24 = j24, getL l' 25 = j25, getL l' 26 = j26, getL l' 27 = j27, getL l' 28 = j28, getL l' 29 = j29, getL l' 30 = j30, getL l' 31 = j31, getL l' 32 = j32, getL l' 33 = j33, getL l' 34 = j34, getL l' 35 = j35, getL l' 36 = j36, getL l' 37 = j37, getL l' 38 = j38, getL l' 39 = j39, getL l' 40 = j40, getL l' 41 = j41, getL l' 42 = j42, getL l' 43 = j43, getL l' 44 = j44, getL l' 45 = j45, getL l' 46 = j46, getL l' 47 = j47, getL l' 48 = j48 at hl
    subst hl
    replace H := hG6 _ H
    try dsimp only at H
    refine hK4 _ _ ?_
    refine HT_seq_k ?_
    intro K265 hK265
    refine HT_region ?_
    refine HL_cons rfl ?_
    refine o_move ?_
    try dsimp only [putL, setL, evL, getL]
    refine HL_cons rfl ?_
    refine o_assign ?_
    try dsimp only [putL, setL, evL, getL]
    refine HL_nil ?_
    refine hK265 _ _ ?_
    refine HT_ret ?_
    obtain rfl := Option.some.inj (show some _ = some r from H)
    exact hQr _ _ [.slice A135 x135.length c135] ⟨rfl, trivial⟩ ⟨A135, c135, rfl, O135, N135, hS⟩
def spec_l15Distance.l1 (p0 : List (Int)) (p1 : List (Int)) : Nat → (List (Int)) → Int → Option (List (Int))
  | 0, _, _ => none
  | kf + 1, x46, x47 => if (decide (x47 < (p0.length : Int))) = true then ((rd? p0 x47).bind fun u64 => (spec_l15Row.f x46 u64 p1 (IntKind.i64.wrap (x47 + 1))).bind fun u65 => spec_l15Distance.l1 p0 p1 kf u65 (IntKind.i64.wrap (x47 + 1))) else (some x46)
def spec_l15Distance.f (p0 : List (Int)) (p1 : List (Int)) : Option Int := (spec_l15Numbers.f (IntKind.i64.wrap ((p1.length : Int) + 1))).bind fun u3 => (spec_l15Distance.l1 p0 p1 ((((p0.length : Int)) - (0)).toNat + 2) u3 0).bind fun (o : (List (Int))) => match o with | x37 => ((rd? x37 (p1.length : Int)).bind fun u69 => some u69)
def spec_l15Distance.post (s : St) (r : Int) : Value → St → Prop := fun v s' => v = .int .i64 r ∧ Sub s s'
set_option maxRecDepth 100000 in
set_option maxHeartbeats 4000000 in
theorem spec_l15Distance.ok (s : St) (A0p : Option Addr) (c0p : Nat) (p0 : List (Int)) (A1p : Option Addr) (c1p : Nat) (p1 : List (Int)) (HRp0 : Rd (Kd.int .i64) s A0p c0p p0) (HRp1 : Rd (Kd.int .i64) s A1p c1p p1) (r : Int) (H : spec_l15Distance.f p0 p1 = some r) : GCall Try.prog 40 #[.slice A0p p0.length c0p, .slice A1p p1.length c1p] s (spec_l15Distance.post s r) := by
  refine GCall_ofk [.tmp 4] [.slice A0p p0.length c0p, .slice A1p p1.length c1p, undef, undef, undef, undef, undef, undef, undef, undef, undef, undef, undef, undef, undef, undef, undef, undef, undef, undef, undef, undef, undef, undef, undef, undef, undef, undef, undef, undef, undef] Try.func40 rfl rfl rfl ?_
  intro w Q hQr hQn hQp
  have hS := Sub.refl s
  replace H := topE H
  unfold spec_l15Distance.f at H
  refine HT_seq_k ?_
  intro K1 hK1
  refine HT_region ?_
  refine HL_cons rfl ?_
  refine o_assign ?_
  try dsimp only [putL, setL, evL, getL]
  refine HL_nil ?_
  refine hK1 _ _ ?_
  refine HT_seq_k ?_
  intro K2 hK2
  refine HT_region ?_
  refine HL_cons rfl ?_
  refine o_move ?_
  try dsimp only [putL, setL, evL, getL]
  refine HL_cons rfl ?_
  refine o_len rfl Try.underlying22 ?_
  try dsimp only [putL, setL, evL, getL]
  refine HL_cons rfl ?_
  refine o_bin rfl rfl rfl ?_
  try dsimp only [putL, setL, evL, getL]
  obtain ⟨u3, hu3, H⟩ := headE H
  refine HL_cons rfl ?_
  refine o_call (args := #[.int .i64 (IntKind.i64.wrap ((p1.length : Int) + 1))]) Try.func45 rfl rfl rfl (spec_l15Numbers.ok s (IntKind.i64.wrap ((p1.length : Int) + 1)) _ hu3) ?_
  rintro _ s3 ⟨A4, c4, rfl, O4, N4, hc⟩
  replace N4 := N4.of hS
  have hS' := hS.trans hc
  replace hS := hS'
  clear hS' hc
  try dsimp only [putL, setL, evL, getL]
  refine HL_cons rfl ?_
  refine o_assign ?_
  try dsimp only [putL, setL, evL, getL]
  refine HL_nil ?_
  refine hK2 _ _ ?_
  refine HT_seq_k ?_
  intro K5 hK5
  refine HT_seq_k ?_
  intro K6 hK6
  refine HT_region ?_
  refine HL_cons rfl ?_
  refine o_move ?_
  try dsimp only [putL, setL, evL, getL]
  refine HL_cons rfl ?_
  refine o_len rfl Try.underlying22 ?_
  try dsimp only [putL, setL, evL, getL]
  refine HL_cons rfl ?_
  refine o_move ?_
  try dsimp only [putL, setL, evL, getL]
  refine HL_nil ?_
  refine hK6 _ _ ?_
  refine joinH H fun G7 hG7 H => ?_
  refine HT_toK (fun l' s' => ∃ (x37 : List (Int)) (A37 : Option Addr) (c37 : Nat), G7 x37 = some r ∧ l' = [.slice A0p p0.length c0p, .slice A1p p1.length c1p, undef, undef, .int .i64 0, .slice A37 x37.length c37, getL l' 6, getL l' 7, .slice A1p p1.length c1p, .int .i64 (p1.length : Int), .int .i64 (IntKind.i64.wrap ((p1.length : Int) + 1)), .slice A4 u3.length c4, .slice A0p p0.length c0p, .int .i64 (p0.length : Int), getL l' 14, getL l' 15, getL l' 16, getL l' 17, getL l' 18, getL l' 19, getL l' 20, getL l' 21, getL l' 22, getL l' 23, getL l' 24, getL l' 25, undef, undef, undef, undef, undef] ∧ Sub s s' ∧ Own.is (Kd.int .i64) 3 s' A37 c37 x37 ∧ NewA s (eff A37 c37)) ?_ ?_
  · intro K7 hK7
    refine HT_block ?_
    refine HT_loopK (fun kf l' s' => ∃ (x46 : List (Int)) (A46 : Option Addr) (c46 : Nat) (x47 : Int), (spec_l15Distance.l1 p0 p1 kf x46 x47).bind G7 = some r ∧ l' = [.slice A0p p0.length c0p, .slice A1p p1.length c1p, undef, undef, .int .i64 0, .slice A46 x46.length c46, getL l' 6, getL l' 7, .slice A1p p1.length c1p, .int .i64 (p1.length : Int), .int .i64 (IntKind.i64.wrap ((p1.length : Int) + 1)), .slice A4 u3.length c4, .slice A0p p0.length c0p, .int .i64 (p0.length : Int), .int .i64 x47, getL l' 15, getL l' 16, getL l' 17, getL l' 18, getL l' 19, getL l' 20, getL l' 21, getL l' 22, getL l' 23, getL l' 24, getL l' 25, undef, undef, undef, undef, undef] ∧ Sub s s' ∧ Own.is (Kd.int .i64) 3 s' A46 c46 x46 ∧ NewA s (eff A46 c46)) ((((p0.length : Int)) - (0)).toNat + 2) ⟨u3, A4, c4, 0, H, rfl, hS, O4, N4⟩ ?_
    rintro kf l' s58 ⟨x46, A46, c46, x47, H, hl, hS, O46, N46⟩ K58 hK58
    generalize getL l' 6 = j6, getL l' 7 = j7, getL l' 15 = j15, getL l' 16 = j16, getL l' 17 = j17, getL l' 18 = j18, getL l' 19 = j19, getL l' 20 = j20, getL l' 21 = j21, getL l' 22 = j22, getL l' 23 = j23, getL l' 24 = j24, getL l' 25 = j25 at hl
    subst hl
    cases kf with
    | zero => simp [spec_l15Distance.l1] at H
    | succ kf =>
      rw [spec_l15Distance.l1] at H
      refine HT_seq_k ?_
      intro K59 hK59
      refine HT_region ?_
      refine HL_cons rfl ?_
      refine o_bin rfl rfl rfl ?_
      try dsimp only [putL, setL, evL, getL]
      refine HL_nil ?_
      refine hK59 _ _ ?_
      refine HT_seq_k ?_
      intro K60 hK60
      rcases Bool.eq_false_or_eq_true (decide (x47 < (p0.length : Int))) with hb61 | hb61
      · replace H := iteT hb61 H
        refine HT_true (congrArg Value.bool hb61) ?_
        refine HT_skip ?_
        refine hK60 _ _ ?_
        refine HT_seq_k ?_
        intro K62 hK62
        refine HT_block ?_
        refine HT_seq_k ?_
        intro K63 hK63
        refine HT_region ?_
        refine HL_cons rfl ?_
        refine o_move ?_
        try dsimp only [putL, setL, evL, getL]
        obtain ⟨u64, hu64, H⟩ := headE H
        refine HL_cons rfl ?_
        refine o_el (K := (Kd.int .i64)) (xs := p0) rfl rfl Try.underlying22 tI3 (HRp0.mono hS.mono) hu64 ?_
        intro b64 o64 cs64 hr64 hh64
        obtain rfl := hr64
        try dsimp only [putL, setL, evL, getL]
        refine HL_cons rfl ?_
        refine o_load' rfl Try.underlying3 rfl (hh64 0 _ rfl) ?_
        try dsimp only [putL, setL, evL, getL]
        refine HL_cons rfl ?_
        refine o_assign ?_
        try dsimp only [putL, setL, evL, getL]
        refine HL_cons rfl ?_
        refine o_assign ?_
        try dsimp only [putL, setL, evL, getL]
        refine HL_nil ?_
        refine hK63 _ _ ?_
        refine HT_region ?_
        refine HL_cons rfl ?_
        refine o_move ?_
        try dsimp only [putL, setL, evL, getL]
        refine HL_cons rfl ?_
        refine o_move ?_
        try dsimp only [putL, setL, evL, getL]
        refine HL_cons rfl ?_
        refine o_move ?_
        try dsimp only [putL, setL, evL, getL]
        refine HL_cons rfl ?_
        refine o_move ?_
        try dsimp only [putL, setL, evL, getL]
        refine HL_cons rfl ?_
        refine o_bin rfl rfl rfl ?_
        try dsimp only [putL, setL, evL, getL]
        obtain ⟨u65, hu65, H⟩ := headE H
        refine HL_cons rfl ?_
        refine o_call (args := #[.slice A46 x46.length c46, .int .i64 u64, .slice A1p p1.length c1p, .int .i64 (IntKind.i64.wrap (x47 + 1))]) Try.func46 rfl rfl rfl (spec_l15Row.ok s58 A46 c46 x46 u64 A1p c1p p1 (IntKind.i64.wrap (x47 + 1)) O46.rd (HRp1.mono hS.mono) _ hu65) ?_
        rintro _ s65 ⟨A66, c66, rfl, O66, N66, hc⟩
        have P46_66 := O46.apart N66
        replace N66 := N66.of hS
        have hS' := hS.trans hc
        replace O46 := O46.sub hc
        replace hS := hS'
        clear hS' hc
        try dsimp only [putL, setL, evL, getL]
        refine HL_cons rfl ?_
        refine o_assign ?_
        try dsimp only [putL, setL, evL, getL]
        refine HL_nil ?_
        refine hK62 _ _ ?_
        refine HT_region ?_
        refine HL_cons rfl ?_
        refine o_bin rfl rfl rfl ?_
        try dsimp only [putL, setL, evL, getL]
        refine HL_cons rfl ?_
        refine o_move ?_
        try dsimp only [putL, setL, evL, getL]
        refine HL_nil ?_
        exact hK58 _ _ ⟨kf, Nat.lt_succ_self kf, u65, A66, c66, IntKind.i64.wrap (x47 + 1), H, rfl, hS, O66, N66⟩
      · replace H := iteF hb61 H
        refine HT_false (congrArg Value.bool hb61) ?_
        refine HT_exit ?_
        exact hK7 _ _ ⟨x46, A46, c46, H, rfl, hS, O46, N46⟩
  · rintro l' s67 ⟨x37, A37, c37, H, hl, hS, O37, N37⟩
    generalize getL l' 6 = j6, getL l' 7 = j7, getL l' 14 = j14, getL l' 15 = j15, getL l' 16 = j16, getL l' 17 = j17, getL l' 18 = j18, getL l' 19 = j19, getL l' 20 = j20, getL l' 21 = j21, getL l' 22 = j22, getL l' 23 = j23, getL l' 24 = j24, getL l' 25 = j25 at hl
    subst hl
    replace H := hG7 _ H
    try dsimp only at H
    refine hK5 _ _ ?_
    refine HT_seq_k ?_
    intro K68 hK68
    refine HT_region ?_
    refine HL_cons rfl ?_
    refine o_move ?_
    try dsimp only [putL, setL, evL, getL]
    refine HL_cons rfl ?_
    refine o_move ?_
    try dsimp only [putL, setL, evL, getL]
    refine HL_cons rfl ?_
    refine o_len rfl Try.underlying22 ?_
    try dsimp only [putL, setL, evL, getL]
    obtain ⟨u69, hu69, H⟩ := headE H
    refine HL_cons rfl ?_
    refine o_el (K := (Kd.int .i64)) (xs := x37) rfl rfl Try.underlying22 tI3 O37.rd hu69 ?_
    intro b69 o69 cs69 hr69 hh69
    obtain rfl := hr69
    try dsimp only [putL, setL, evL, getL]
    refine HL_cons rfl ?_
    refine o_load' rfl Try.underlying3 rfl (hh69 0 _ rfl) ?_
    try dsimp only [putL, setL, evL, getL]
    refine HL_cons rfl ?_
    refine o_assign ?_
    try dsimp only [putL, setL, evL, getL]
    refine HL_nil ?_
    refine hK68 _ _ ?_
    refine HT_ret ?_
    obtain rfl := Option.some.inj (show some _ = some r from H)
    exact hQr _ _ [.int .i64 u69] ⟨rfl, trivial⟩ ⟨rfl, hS⟩
def spec_DistanceOf.f (p0 : List (Int)) (p1 : List (Int)) : Option (Int × Bool) := ((spec_l15List.f p0).bind fun u20 => if (!u20) = true then (some true) else ((spec_l15List.f p1).bind fun u22 => some (!u22))).bind fun (o : Bool) => match o with | x19 => (if x19 = true then (some (0, false)) else ((spec_l15Distance.f p0 p1).bind fun u27 => some (u27, true)))
def spec_DistanceOf.post (s : St) (r : Int × Bool) : Value → St → Prop := fun v s' => v = .tuple #[.int .i64 r.1, .bool r.2] ∧ Sub s s'
set_option maxRecDepth 100000 in
set_option maxHeartbeats 4000000 in
theorem spec_DistanceOf.ok (s : St) (A0p : Option Addr) (c0p : Nat) (p0 : List (Int)) (A1p : Option Addr) (c1p : Nat) (p1 : List (Int)) (HRp0 : Rd (Kd.int .i64) s A0p c0p p0) (HRp1 : Rd (Kd.int .i64) s A1p c1p p1) (r : Int × Bool) (H : spec_DistanceOf.f p0 p1 = some r) : GCall Try.prog 14 #[.slice A0p p0.length c0p, .slice A1p p1.length c1p] s (spec_DistanceOf.post s r) := by
  refine GCall_ofk [.tmp 4, .tmp 5] [.slice A0p p0.length c0p, .slice A1p p1.length c1p, undef, undef, undef, undef, undef, undef, undef, undef, undef, undef, undef, undef, undef, undef, undef] Try.func14 rfl rfl rfl ?_
  intro w Q hQr hQn hQp
  have hS := Sub.refl s
  replace H := topE H
  unfold spec_DistanceOf.f at H
  refine HT_seq_k ?_
  intro K1 hK1
  refine HT_region ?_
  refine HL_cons rfl ?_
  refine o_assign ?_
  try dsimp only [putL, setL, evL, getL]
  refine HL_cons rfl ?_
  refine o_assign ?_
  try dsimp only [putL, setL, evL, getL]
  refine HL_nil ?_
  refine hK1 _ _ ?_
  refine HT_seq_k ?_
  intro K14 hK14
  refine joinH H fun G15 hG15 H => ?_
  refine HT_joinK (fun l' s' => ∃ (x19 : Bool), G15 x19 = some r ∧ l' = [.slice A0p p0.length c0p, .slice A1p p1.length c1p, undef, undef, .int .i64 0, .bool false, getL l' 6, getL l' 7, getL l' 8, getL l' 9, getL l' 10, getL l' 11, getL l' 12, .bool x19, undef, undef, undef] ∧ Sub s s') ?_ ?_
  · intro K15 hK15
    refine HT_region ?_
    refine HL_cons rfl ?_
    refine o_move ?_
    try dsimp only [putL, setL, evL, getL]
    obtain ⟨u20, hu20, H⟩ := headE H
    refine HL_cons rfl ?_
    refine o_call (args := #[.slice A0p p0.length c0p]) Try.func39 rfl rfl rfl (spec_l15List.ok s A0p c0p p0 (HRp0.mono hS.mono) _ hu20) ?_
    rintro _ s20 ⟨rfl, hc⟩
    have hS' := hS.trans hc
    replace hS := hS'
    clear hS' hc
    try dsimp only [putL, setL, evL, getL]
    refine HL_cons rfl ?_
    refine o_not rfl ?_
    try dsimp only [putL, setL, evL, getL]
    refine HL_cons rfl ?_
    refine o_move ?_
    try dsimp only [putL, setL, evL, getL]
    rcases Bool.eq_false_or_eq_true (!u20) with hb21 | hb21
    · replace H := iteT hb21 H
      refine HL_skip ?_ ?_
      · exact wantF (j := 3) (b := false) (t := 9) (c := !u20) rfl rfl rfl rfl hb21
      try dsimp only [putL, setL, evL, getL]
      refine HL_skip ?_ ?_
      · exact wantF (j := 3) (b := false) (t := 9) (c := !u20) rfl rfl rfl rfl hb21
      try dsimp only [putL, setL, evL, getL]
      refine HL_skip ?_ ?_
      · exact wantF (j := 3) (b := false) (t := 9) (c := !u20) rfl rfl rfl rfl hb21
      try dsimp only [putL, setL, evL, getL]
      refine HL_cons rfl ?_
      refine o_pickT rfl hb21 ?_
      try dsimp only [putL, setL, evL, getL]
      refine HL_nil ?_
      exact hK15 _ _ ⟨true, H, rfl, hS⟩
    · replace H := iteF hb21 H
      refine HL_want ?_ ?_
      · exact wantT (j := 3) (b := false) (t := 9) (c := !u20) rfl rfl rfl rfl hb21
      refine o_move ?_
      try dsimp only [putL, setL, evL, getL]
      obtain ⟨u22, hu22, H⟩ := headE H
      refine HL_want ?_ ?_
      · exact wantT (j := 3) (b := false) (t := 9) (c := !u20) rfl rfl rfl rfl hb21
      refine o_call (args := #[.slice A1p p1.length c1p]) Try.func39 rfl rfl rfl (spec_l15List.ok s20 A1p c1p p1 (HRp1.mono hS.mono) _ hu22) ?_
      rintro _ s22 ⟨rfl, hc⟩
      have hS' := hS.trans hc
      replace hS := hS'
      clear hS' hc
      try dsimp only [putL, setL, evL, getL]
      refine HL_want ?_ ?_
      · exact wantT (j := 3) (b := false) (t := 9) (c := !u20) rfl rfl rfl rfl hb21
      refine o_not rfl ?_
      try dsimp only [putL, setL, evL, getL]
      refine HL_cons rfl ?_
      refine o_pickF rfl hb21 ?_
      try dsimp only [putL, setL, evL, getL]
      refine HL_nil ?_
      exact hK15 _ _ ⟨!u22, H, rfl, hS⟩
  · rintro l' s23 ⟨x19, H, hl, hS⟩
    generalize getL l' 6 = j6, getL l' 7 = j7, getL l' 8 = j8, getL l' 9 = j9, getL l' 10 = j10, getL l' 11 = j11, getL l' 12 = j12 at hl
    subst hl
    replace H := hG15 _ H
    try dsimp only at H
    rcases Bool.eq_false_or_eq_true x19 with hb24 | hb24
    · replace H := iteT hb24 H
      refine HT_true (congrArg Value.bool hb24) ?_
      refine HT_seq_k ?_
      intro K25 hK25
      refine HT_region ?_
      refine HL_cons rfl ?_
      refine o_assign ?_
      try dsimp only [putL, setL, evL, getL]
      refine HL_cons rfl ?_
      refine o_assign ?_
      try dsimp only [putL, setL, evL, getL]
      refine HL_nil ?_
      refine hK25 _ _ ?_
      refine HT_ret ?_
      obtain rfl := Option.some.inj (show some _ = some r from H)
      exact hQr _ _ [.int .i64 0, .bool false] ⟨rfl, rfl, trivial⟩ ⟨rfl, hS⟩
    · replace H := iteF hb24 H
      refine HT_false (congrArg Value.bool hb24) ?_
      refine HT_skip ?_
      refine hK14 _ _ ?_
      refine HT_seq_k ?_
      intro K26 hK26
      refine HT_region ?_
      refine HL_cons rfl ?_
      refine o_move ?_
      try dsimp only [putL, setL, evL, getL]
      refine HL_cons rfl ?_
      refine o_move ?_
      try dsimp only [putL, setL, evL, getL]
      obtain ⟨u27, hu27, H⟩ := headE H
      refine HL_cons rfl ?_
      refine o_call (args := #[.slice A0p p0.length c0p, .slice A1p p1.length c1p]) Try.func40 rfl rfl rfl (spec_l15Distance.ok s23 A0p c0p p0 A1p c1p p1 (HRp0.mono hS.mono) (HRp1.mono hS.mono) _ hu27) ?_
      rintro _ s27 ⟨rfl, hc⟩
      have hS' := hS.trans hc
      replace hS := hS'
      clear hS' hc
      try dsimp only [putL, setL, evL, getL]
      refine HL_cons rfl ?_
      refine o_assign ?_
      try dsimp only [putL, setL, evL, getL]
      refine HL_cons rfl ?_
      refine o_assign ?_
      try dsimp only [putL, setL, evL, getL]
      refine HL_nil ?_
      refine hK26 _ _ ?_
      refine HT_ret ?_
      obtain rfl := Option.some.inj (show some _ = some r from H)
      exact hQr _ _ [.int .i64 u27, .bool true] ⟨rfl, rfl, trivial⟩ ⟨rfl, hS⟩
def impl_inRange.f (p0 : Int) (p1 : Int) (p2 : Int) : Option Bool := if (decide (p1 ≤ p0)) = true then (some (decide (p0 ≤ p2))) else (some false)
def impl_inRange.post (s : St) (r : Bool) : Value → St → Prop := fun v s' => v = .bool r ∧ Sub s s'
set_option maxRecDepth 100000 in
set_option maxHeartbeats 4000000 in
theorem impl_inRange.ok (s : St) (p0 : Int) (p1 : Int) (p2 : Int) (r : Bool) (H : impl_inRange.f p0 p1 p2 = some r) : GCall Try.prog 34 #[.int .i64 p0, .int .i64 p1, .int .i64 p2] s (impl_inRange.post s r) := by
  refine GCall_ofk [.tmp 6] [.int .i64 p0, .int .i64 p1, .int .i64 p2, undef, undef, undef, undef, undef, undef, undef, undef, undef, undef, undef, undef] Try.func34 rfl rfl rfl ?_
  intro w Q hQr hQn hQp
  have hS := Sub.refl s
  replace H := topE H
  unfold impl_inRange.f at H
  refine HT_seq_k ?_
  intro K1 hK1
  refine HT_region ?_
  refine HL_cons rfl ?_
  refine o_assign ?_
  try dsimp only [putL, setL, evL, getL]
  refine HL_nil ?_
  refine hK1 _ _ ?_
  refine HT_seq_k ?_
  intro K2 hK2
  refine HT_region ?_
  refine HL_cons rfl ?_
  refine o_move ?_
  try dsimp only [putL, setL, evL, getL]
  refine HL_cons rfl ?_
  refine o_move ?_
  try dsimp only [putL, setL, evL, getL]
  refine HL_cons rfl ?_
  refine o_bin rfl rfl rfl ?_
  try dsimp only [putL, setL, evL, getL]
  refine HL_cons rfl ?_
  refine o_move ?_
  try dsimp only [putL, setL, evL, getL]
  rcases Bool.eq_false_or_eq_true (decide (p1 ≤ p0)) with hb3 | hb3
  · replace H := iteT hb3 H
    refine HL_want ?_ ?_
    · exact wantT (j := 3) (b := true) (t := 10) (c := decide (p1 ≤ p0)) rfl rfl rfl rfl hb3
    refine o_move ?_
    try dsimp only [putL, setL, evL, getL]
    refine HL_want ?_ ?_
    · exact wantT (j := 3) (b := true) (t := 10) (c := decide (p1 ≤ p0)) rfl rfl rfl rfl hb3
    refine o_move ?_
    try dsimp only [putL, setL, evL, getL]
    refine HL_want ?_ ?_
    · exact wantT (j := 3) (b := true) (t := 10) (c := decide (p1 ≤ p0)) rfl rfl rfl rfl hb3
    refine o_bin rfl rfl rfl ?_
    try dsimp only [putL, setL, evL, getL]
    refine HL_cons rfl ?_
    refine o_pickT rfl hb3 ?_
    try dsimp only [putL, setL, evL, getL]
    refine HL_cons rfl ?_
    refine o_assign ?_
    try dsimp only [putL, setL, evL, getL]
    refine HL_nil ?_
    refine hK2 _ _ ?_
    refine HT_ret ?_
    obtain rfl := Option.some.inj (show some _ = some r from H)
    exact hQr _ _ [.bool (decide (p0 ≤ p2))] ⟨rfl, trivial⟩ ⟨rfl, hS⟩
  · replace H := iteF hb3 H
    refine HL_skip ?_ ?_
    · exact wantF (j := 3) (b := true) (t := 10) (c := decide (p1 ≤ p0)) rfl rfl rfl rfl hb3
    try dsimp only [putL, setL, evL, getL]
    refine HL_skip ?_ ?_
    · exact wantF (j := 3) (b := true) (t := 10) (c := decide (p1 ≤ p0)) rfl rfl rfl rfl hb3
    try dsimp only [putL, setL, evL, getL]
    refine HL_skip ?_ ?_
    · exact wantF (j := 3) (b := true) (t := 10) (c := decide (p1 ≤ p0)) rfl rfl rfl rfl hb3
    try dsimp only [putL, setL, evL, getL]
    refine HL_cons rfl ?_
    refine o_pickF rfl hb3 ?_
    try dsimp only [putL, setL, evL, getL]
    refine HL_cons rfl ?_
    refine o_assign ?_
    try dsimp only [putL, setL, evL, getL]
    refine HL_nil ?_
    refine hK2 _ _ ?_
    refine HT_ret ?_
    obtain rfl := Option.some.inj (show some _ = some r from H)
    exact hQr _ _ [.bool false] ⟨rfl, trivial⟩ ⟨rfl, hS⟩
def impl_GoodRune.f (p0 : Int) : Option Bool := (impl_inRange.f p0 0 1114111).bind fun u3 => if u3 = true then ((impl_inRange.f p0 55296 57343).bind fun u5 => some (!u5)) else (some false)
def impl_GoodRune.post (s : St) (r : Bool) : Value → St → Prop := fun v s' => v = .bool r ∧ Sub s s'
set_option maxRecDepth 100000 in
set_option maxHeartbeats 4000000 in
theorem impl_GoodRune.ok (s : St) (p0 : Int) (r : Bool) (H : impl_GoodRune.f p0 = some r) : GCall Try.prog 38 #[.int .i64 p0] s (impl_GoodRune.post s r) := by
  refine GCall_ofk [.tmp 2] [.int .i64 p0, undef, undef, undef, undef, undef, undef, undef, undef, undef] Try.func38 rfl rfl rfl ?_
  intro w Q hQr hQn hQp
  have hS := Sub.refl s
  replace H := topE H
  unfold impl_GoodRune.f at H
  refine HT_seq_k ?_
  intro K1 hK1
  refine HT_region ?_
  refine HL_cons rfl ?_
  refine o_assign ?_
  try dsimp only [putL, setL, evL, getL]
  refine HL_nil ?_
  refine hK1 _ _ ?_
  refine HT_seq_k ?_
  intro K2 hK2
  refine HT_region ?_
  refine HL_cons rfl ?_
  refine o_move ?_
  try dsimp only [putL, setL, evL, getL]
  obtain ⟨u3, hu3, H⟩ := headE H
  refine HL_cons rfl ?_
  refine o_call (args := #[.int .i64 p0, .int .i64 0, .int .i64 1114111]) Try.func34 rfl rfl rfl (impl_inRange.ok s p0 0 1114111 _ hu3) ?_
  rintro _ s3 ⟨rfl, hc⟩
  have hS' := hS.trans hc
  replace hS := hS'
  clear hS' hc
  try dsimp only [putL, setL, evL, getL]
  refine HL_cons rfl ?_
  refine o_move ?_
  try dsimp only [putL, setL, evL, getL]
  rcases Bool.eq_false_or_eq_true u3 with hb4 | hb4
  · replace H := iteT hb4 H
    refine HL_want ?_ ?_
    · exact wantT (j := 2) (b := true) (t := 5) (c := u3) rfl rfl rfl rfl hb4
    refine o_move ?_
    try dsimp only [putL, setL, evL, getL]
    obtain ⟨u5, hu5, H⟩ := headE H
    refine HL_want ?_ ?_
    · exact wantT (j := 2) (b := true) (t := 5) (c := u3) rfl rfl rfl rfl hb4
    refine o_call (args := #[.int .i64 p0, .int .i64 55296, .int .i64 57343]) Try.func34 rfl rfl rfl (impl_inRange.ok s3 p0 55296 57343 _ hu5) ?_
    rintro _ s5 ⟨rfl, hc⟩
    have hS' := hS.trans hc
    replace hS := hS'
    clear hS' hc
    try dsimp only [putL, setL, evL, getL]
    refine HL_want ?_ ?_
    · exact wantT (j := 2) (b := true) (t := 5) (c := u3) rfl rfl rfl rfl hb4
    refine o_not rfl ?_
    try dsimp only [putL, setL, evL, getL]
    refine HL_cons rfl ?_
    refine o_pickT rfl hb4 ?_
    try dsimp only [putL, setL, evL, getL]
    refine HL_cons rfl ?_
    refine o_assign ?_
    try dsimp only [putL, setL, evL, getL]
    refine HL_nil ?_
    refine hK2 _ _ ?_
    refine HT_ret ?_
    obtain rfl := Option.some.inj (show some _ = some r from H)
    exact hQr _ _ [.bool (!u5)] ⟨rfl, trivial⟩ ⟨rfl, hS⟩
  · replace H := iteF hb4 H
    refine HL_skip ?_ ?_
    · exact wantF (j := 2) (b := true) (t := 5) (c := u3) rfl rfl rfl rfl hb4
    try dsimp only [putL, setL, evL, getL]
    refine HL_skip ?_ ?_
    · exact wantF (j := 2) (b := true) (t := 5) (c := u3) rfl rfl rfl rfl hb4
    try dsimp only [putL, setL, evL, getL]
    refine HL_skip ?_ ?_
    · exact wantF (j := 2) (b := true) (t := 5) (c := u3) rfl rfl rfl rfl hb4
    try dsimp only [putL, setL, evL, getL]
    refine HL_cons rfl ?_
    refine o_pickF rfl hb4 ?_
    try dsimp only [putL, setL, evL, getL]
    refine HL_cons rfl ?_
    refine o_assign ?_
    try dsimp only [putL, setL, evL, getL]
    refine HL_nil ?_
    refine hK2 _ _ ?_
    refine HT_ret ?_
    obtain rfl := Option.some.inj (show some _ = some r from H)
    exact hQr _ _ [.bool false] ⟨rfl, trivial⟩ ⟨rfl, hS⟩
def impl_areRunes_1.f (p0 : Int) : Option Bool := (impl_GoodRune.f p0).bind fun u3 => some (!u3)
def impl_areRunes_1.post (s : St) (r : Bool) : Value → St → Prop := fun v s' => v = .bool r ∧ Sub s s'
set_option maxRecDepth 100000 in
set_option maxHeartbeats 4000000 in
theorem impl_areRunes_1.ok (s : St) (p0 : Int) (r : Bool) (H : impl_areRunes_1.f p0 = some r) : GCall Try.prog 61 #[.int .i64 p0] s (impl_areRunes_1.post s r) := by
  refine GCall_ofk [.tmp 2] [.int .i64 p0, undef, undef, undef, undef, undef] Try.func61 rfl rfl rfl ?_
  intro w Q hQr hQn hQp
  have hS := Sub.refl s
  replace H := topE H
  unfold impl_areRunes_1.f at H
  refine HT_seq_k ?_
  intro K1 hK1
  refine HT_region ?_
  refine HL_cons rfl ?_
  refine o_assign ?_
  try dsimp only [putL, setL, evL, getL]
  refine HL_nil ?_
  refine hK1 _ _ ?_
  refine HT_seq_k ?_
  intro K2 hK2
  refine HT_region ?_
  refine HL_cons rfl ?_
  refine o_move ?_
  try dsimp only [putL, setL, evL, getL]
  obtain ⟨u3, hu3, H⟩ := headE H
  refine HL_cons rfl ?_
  refine o_call (args := #[.int .i64 p0]) Try.func38 rfl rfl rfl (impl_GoodRune.ok s p0 _ hu3) ?_
  rintro _ s3 ⟨rfl, hc⟩
  have hS' := hS.trans hc
  replace hS := hS'
  clear hS' hc
  try dsimp only [putL, setL, evL, getL]
  refine HL_cons rfl ?_
  refine o_not rfl ?_
  try dsimp only [putL, setL, evL, getL]
  refine HL_cons rfl ?_
  refine o_assign ?_
  try dsimp only [putL, setL, evL, getL]
  refine HL_nil ?_
  refine hK2 _ _ ?_
  refine HT_ret ?_
  obtain rfl := Option.some.inj (show some _ = some r from H)
  exact hQr _ _ [.bool (!u3)] ⟨rfl, trivial⟩ ⟨rfl, hS⟩
def slices_IndexFunc_int_int_impl_areRunes_1.l1 (p0 : List (Int)) : Nat → Int → Option (Lo Unit Int)
  | 0, _ => none
  | kf + 1, x48 => if (decide (x48 < (p0.length : Int))) = true then ((rd? p0 x48).bind fun u67 => (impl_areRunes_1.f u67).bind fun u68 => if u68 = true then ((some x48).bind fun z => some (Lo.ret z)) else (slices_IndexFunc_int_int_impl_areRunes_1.l1 p0 kf (IntKind.i64.wrap (x48 + 1)))) else (some (Lo.go ()))
def slices_IndexFunc_int_int_impl_areRunes_1.f (p0 : List (Int)) : Option Int := (slices_IndexFunc_int_int_impl_areRunes_1.l1 p0 ((((p0.length : Int)) - (0)).toNat + 2) 0).bind fun (o : Lo Unit Int) => match o with | .go () => (some (-1)) | .ret z => some z
def slices_IndexFunc_int_int_impl_areRunes_1.post (s : St) (r : Int) : Value → St → Prop := fun v s' => v = .int .i64 r ∧ Sub s s'
set_option maxRecDepth 100000 in
set_option maxHeartbeats 4000000 in
theorem slices_IndexFunc_int_int_impl_areRunes_1.ok (s : St) (A0p : Option Addr) (c0p : Nat) (p0 : List (Int)) (HRp0 : Rd (Kd.int .i64) s A0p c0p p0) (r : Int) (H : slices_IndexFunc_int_int_impl_areRunes_1.f p0 = some r) : GCall Try.prog 56 #[.slice A0p p0.length c0p, .func (.func 61) #[] #[]] s (slices_IndexFunc_int_int_impl_areRunes_1.post s r) := by
  refine GCall_ofk [.tmp 4] [.slice A0p p0.length c0p, .func (.func 61) #[] #[], undef, undef, undef, undef, undef, undef, undef, undef, undef, undef, undef, undef, undef, undef, undef, undef, undef] Try.func56 rfl rfl rfl ?_
  intro w Q hQr hQn hQp
  have hS := Sub.refl s
  replace H := topE H
  unfold slices_IndexFunc_int_int_impl_areRunes_1.f at H
  refine HT_seq_k ?_
  intro K1 hK1
  refine HT_region ?_
  refine HL_cons rfl ?_
  refine o_assign ?_
  try dsimp only [putL, setL, evL, getL]
  refine HL_nil ?_
  refine hK1 _ _ ?_
  refine HT_seq_k ?_
  intro K2 hK2
  refine HT_seq_k ?_
  intro K3 hK3
  refine HT_region ?_
  refine HL_cons rfl ?_
  refine o_move ?_
  try dsimp only [putL, setL, evL, getL]
  refine HL_cons rfl ?_
  refine o_len rfl Try.underlying22 ?_
  try dsimp only [putL, setL, evL, getL]
  refine HL_cons rfl ?_
  refine o_move ?_
  try dsimp only [putL, setL, evL, getL]
  refine HL_nil ?_
  refine hK3 _ _ ?_
  refine joinH H fun G4 hG4 H => ?_
  refine HT_toK (fun l' s' => G4 (.go ()) = some r ∧ l' = [.slice A0p p0.length c0p, .func (.func 61) #[] #[], undef, undef, getL l' 4, getL l' 5, .slice A0p p0.length c0p, .int .i64 (p0.length : Int), getL l' 8, getL l' 9, getL l' 10, getL l' 11, getL l' 12, getL l' 13, getL l' 14, getL l' 15, getL l' 16, getL l' 17, getL l' 18] ∧ Sub s s') ?_ ?_
  · intro K4 hK4
    refine HT_block ?_
    refine HT_loopK (fun kf l' s' => ∃ (x48 : Int), (slices_IndexFunc_int_int_impl_areRunes_1.l1 p0 kf x48).bind G4 = some r ∧ l' = [.slice A0p p0.length c0p, .func (.func 61) #[] #[], undef, undef, getL l' 4, getL l' 5, .slice A0p p0.length c0p, .int .i64 (p0.length : Int), .int .i64 x48, getL l' 9, getL l' 10, getL l' 11, getL l' 12, getL l' 13, getL l' 14, getL l' 15, getL l' 16, getL l' 17, getL l' 18] ∧ Sub s s') ((((p0.length : Int)) - (0)).toNat + 2) ⟨0, H, rfl, hS⟩ ?_
    rintro kf l' s60 ⟨x48, H, hl, hS⟩ K60 hK60
    generalize getL l' 4 = j4, getL l' 5 = j5, getL l' 9 = j9, getL l' 10 = j10, getL l' 11 = j11, getL l' 12 = j12, getL l' 13 = j13, getL l' 14 = j14, getL l' 15 = j15, getL l' 16 = j16, getL l' 17 = j17, getL l' 18 = j18 at hl
    subst hl
    cases kf with
    | zero => simp [slices_IndexFunc_int_int_impl_areRunes_1.l1] at H
    | succ kf =>
      rw [slices_IndexFunc_int_int_impl_areRunes_1.l1] at H
      refine HT_seq_k ?_
      intro K61 hK61
      refine HT_region ?_
      refine HL_cons rfl ?_
      refine o_bin rfl rfl rfl ?_
      try dsimp only [putL, setL, evL, getL]
      refine HL_nil ?_
      refine hK61 _ _ ?_
      refine HT_seq_k ?_
      intro K62 hK62
      rcases Bool.eq_false_or_eq_true (decide (x48 < (p0.length : Int))) with hb63 | hb63
      · replace H := iteT hb63 H
        refine HT_true (congrArg Value.bool hb63) ?_
        refine HT_skip ?_
        refine hK62 _ _ ?_
        refine HT_seq_k ?_
        intro K64 hK64
        refine HT_block ?_
        refine HT_seq_k ?_
        intro K65 hK65
        refine HT_region ?_
        refine HL_cons rfl ?_
        refine o_move ?_
        try dsimp only [putL, setL, evL, getL]
        refine HL_cons rfl ?_
        refine o_assign ?_
        try dsimp only [putL, setL, evL, getL]
        refine HL_nil ?_
        refine hK65 _ _ ?_
        refine HT_seq_k ?_
        intro K66 hK66
        refine HT_region ?_
        refine HL_cons rfl ?_
        refine o_move ?_
        try dsimp only [putL, setL, evL, getL]
        refine HL_cons rfl ?_
        refine o_move ?_
        try dsimp only [putL, setL, evL, getL]
        refine HL_cons rfl ?_
        refine o_move ?_
        try dsimp only [putL, setL, evL, getL]
        obtain ⟨u67, hu67, H⟩ := headE H
        refine HL_cons rfl ?_
        refine o_el (K := (Kd.int .i64)) (xs := p0) rfl rfl Try.underlying22 tI3 (HRp0.mono hS.mono) hu67 ?_
        intro b67 o67 cs67 hr67 hh67
        obtain rfl := hr67
        try dsimp only [putL, setL, evL, getL]
        refine HL_cons rfl ?_
        refine o_load' rfl Try.underlying3 rfl (hh67 0 _ rfl) ?_
        try dsimp only [putL, setL, evL, getL]
        obtain ⟨u68, hu68, H⟩ := headE H
        refine HL_cons rfl ?_
        refine o_callv (first := #[]) (cap := #[]) (args := #[.int .i64 u67]) rfl Try.func61 rfl rfl [.int .i64 u67] rfl (by simp) (impl_areRunes_1.ok s60 u67 _ hu68) ?_
        rintro _ s68 ⟨rfl, hc⟩
        have hS' := hS.trans hc
        replace hS := hS'
        clear hS' hc
        try dsimp only [putL, setL, evL, getL]
        refine HL_nil ?_
        refine hK66 _ _ ?_
        rcases Bool.eq_false_or_eq_true u68 with hb69 | hb69
        · replace H := iteT hb69 H
          refine HT_true (congrArg Value.bool hb69) ?_
          refine HT_seq_k ?_
          intro K70 hK70
          refine HT_region ?_
          refine HL_cons rfl ?_
          refine o_move ?_
          try dsimp only [putL, setL, evL, getL]
          refine HL_cons rfl ?_
          refine o_assign ?_
          try dsimp only [putL, setL, evL, getL]
          refine HL_nil ?_
          refine hK70 _ _ ?_
          refine HT_ret ?_
          replace H := escH (fun z hz => hG4 _ hz) H
          obtain rfl := Option.some.inj (show some _ = some r from H)
          exact hQr _ _ [.int .i64 x48] ⟨rfl, trivial⟩ ⟨rfl, hS⟩
        · replace H := iteF hb69 H
          refine HT_false (congrArg Value.bool hb69) ?_
          refine HT_skip ?_
          refine hK64 _ _ ?_
          refine HT_region ?_
          refine HL_cons rfl ?_
          refine o_bin rfl rfl rfl ?_
          try dsimp only [putL, setL, evL, getL]
          refine HL_cons rfl ?_
          refine o_move ?_
          try dsimp only [putL, setL, evL, getL]
          refine HL_nil ?_
          exact hK60 _ _ ⟨kf, Nat.lt_succ_self kf, IntKind.i64.wrap (x48 + 1), H, rfl, hS⟩
      · replace H := iteF hb63 H
        refine HT_false (congrArg Value.bool hb63) ?_
        refine HT_exit ?_
        exact hK4 _ _ ⟨H, rfl, hS⟩
  · rintro l' s71 ⟨H, hl, hS⟩
    generalize getL l' 4 = j4, getL l' 5 = j5, getL l' 8 = j8, getL l' 9 = j9, getL l' 10 = j10, getL l' 11 = j11, getL l' 12 = j12, getL l' 13 = j13, getL l' 14 = j14, getL l' 15 = j15, getL l' 16 = j16, getL l' 17 = j17, getL l' 18 = j18 at hl
    subst hl
    replace H := hG4 _ H
    try dsimp only at H
    refine hK2 _ _ ?_
    refine HT_seq_k ?_
    intro K72 hK72
    refine HT_region ?_
    refine HL_cons rfl ?_
    refine o_assign ?_
    try dsimp only [putL, setL, evL, getL]
    refine HL_nil ?_
    refine hK72 _ _ ?_
    refine HT_ret ?_
    obtain rfl := Option.some.inj (show some _ = some r from H)
    exact hQr _ _ [.int .i64 (-1)] ⟨rfl, trivial⟩ ⟨rfl, hS⟩
def slices_ContainsFunc_int_int_impl_areRunes_1.f (p0 : List (Int)) : Option Bool := (slices_IndexFunc_int_int_impl_areRunes_1.f p0).bind fun u3 => some (decide (u3 ≥ 0))
def slices_ContainsFunc_int_int_impl_areRunes_1.post (s : St) (r : Bool) : Value → St → Prop := fun v s' => v = .bool r ∧ Sub s s'
set_option maxRecDepth 100000 in
set_option maxHeartbeats 4000000 in
theorem slices_ContainsFunc_int_int_impl_areRunes_1.ok (s : St) (A0p : Option Addr) (c0p : Nat) (p0 : List (Int)) (HRp0 : Rd (Kd.int .i64) s A0p c0p p0) (r : Bool) (H : slices_ContainsFunc_int_int_impl_areRunes_1.f p0 = some r) : GCall Try.prog 36 #[.slice A0p p0.length c0p, .func (.func 61) #[] #[]] s (slices_ContainsFunc_int_int_impl_areRunes_1.post s r) := by
  refine GCall_ofk [.tmp 4] [.slice A0p p0.length c0p, .func (.func 61) #[] #[], undef, undef, undef, undef, undef, undef, undef] Try.func36 rfl rfl rfl ?_
  intro w Q hQr hQn hQp
  have hS := Sub.refl s
  replace H := topE H
  unfold slices_ContainsFunc_int_int_impl_areRunes_1.f at H
  refine HT_seq_k ?_
  intro K1 hK1
  refine HT_region ?_
  refine HL_cons rfl ?_
  refine o_assign ?_
  try dsimp only [putL, setL, evL, getL]
  refine HL_nil ?_
  refine hK1 _ _ ?_
  refine HT_seq_k ?_
  intro K2 hK2
  refine HT_region ?_
  refine HL_cons rfl ?_
  refine o_move ?_
  try dsimp only [putL, setL, evL, getL]
  refine HL_cons rfl ?_
  refine o_move ?_
  try dsimp only [putL, setL, evL, getL]
  obtain ⟨u3, hu3, H⟩ := headE H
  refine HL_cons rfl ?_
  refine o_call (args := #[.slice A0p p0.length c0p, .func (.func 61) #[] #[]]) Try.func56 rfl rfl rfl (slices_IndexFunc_int_int_impl_areRunes_1.ok s A0p c0p p0 (HRp0.mono hS.mono) _ hu3) ?_
  rintro _ s3 ⟨rfl, hc⟩
  have hS' := hS.trans hc
  replace hS := hS'
  clear hS' hc
  try dsimp only [putL, setL, evL, getL]
  refine HL_cons rfl ?_
  refine o_bin rfl rfl rfl ?_
  try dsimp only [putL, setL, evL, getL]
  refine HL_cons rfl ?_
  refine o_assign ?_
  try dsimp only [putL, setL, evL, getL]
  refine HL_nil ?_
  refine hK2 _ _ ?_
  refine HT_ret ?_
  obtain rfl := Option.some.inj (show some _ = some r from H)
  exact hQr _ _ [.bool (decide (u3 ≥ 0))] ⟨rfl, trivial⟩ ⟨rfl, hS⟩
def impl_areRunes.f (p0 : List (Int)) (p1 : Int) : Option Bool := if (decide ((p0.length : Int) ≤ p1)) = true then ((slices_ContainsFunc_int_int_impl_areRunes_1.f p0).bind fun u4 => some (!u4)) else (some false)
def impl_areRunes.post (s : St) (r : Bool) : Value → St → Prop := fun v s' => v = .bool r ∧ Sub s s'
set_option maxRecDepth 100000 in
set_option maxHeartbeats 4000000 in
theorem impl_areRunes.ok (s : St) (A0p : Option Addr) (c0p : Nat) (p0 : List (Int)) (p1 : Int) (HRp0 : Rd (Kd.int .i64) s A0p c0p p0) (r : Bool) (H : impl_areRunes.f p0 p1 = some r) : GCall Try.prog 50 #[.slice A0p p0.length c0p, .int .i64 p1] s (impl_areRunes.post s r) := by
  refine GCall_ofk [.tmp 4] [.slice A0p p0.length c0p, .int .i64 p1, undef, undef, undef, undef, undef, undef, undef, undef, undef, undef, undef, undef] Try.func50 rfl rfl rfl ?_
  intro w Q hQr hQn hQp
  have hS := Sub.refl s
  replace H := topE H
  unfold impl_areRunes.f at H
  refine HT_seq_k ?_
  intro K1 hK1
  refine HT_region ?_
  refine HL_cons rfl ?_
  refine o_assign ?_
  try dsimp only [putL, setL, evL, getL]
  refine HL_nil ?_
  refine hK1 _ _ ?_
  refine HT_seq_k ?_
  intro K2 hK2
  refine HT_region ?_
  refine HL_cons rfl ?_
  refine o_move ?_
  try dsimp only [putL, setL, evL, getL]
  refine HL_cons rfl ?_
  refine o_len rfl Try.underlying22 ?_
  try dsimp only [putL, setL, evL, getL]
  refine HL_cons rfl ?_
  refine o_move ?_
  try dsimp only [putL, setL, evL, getL]
  refine HL_cons rfl ?_
  refine o_bin rfl rfl rfl ?_
  try dsimp only [putL, setL, evL, getL]
  refine HL_cons rfl ?_
  refine o_move ?_
  try dsimp only [putL, setL, evL, getL]
  rcases Bool.eq_false_or_eq_true (decide ((p0.length : Int) ≤ p1)) with hb3 | hb3
  · replace H := iteT hb3 H
    refine HL_want ?_ ?_
    · exact wantT (j := 4) (b := true) (t := 9) (c := decide ((p0.length : Int) ≤ p1)) rfl rfl rfl rfl hb3
    refine o_move ?_
    try dsimp only [putL, setL, evL, getL]
    obtain ⟨u4, hu4, H⟩ := headE H
    refine HL_want ?_ ?_
    · exact wantT (j := 4) (b := true) (t := 9) (c := decide ((p0.length : Int) ≤ p1)) rfl rfl rfl rfl hb3
    refine o_call (args := #[.slice A0p p0.length c0p, .func (.func 61) #[] #[]]) Try.func36 rfl rfl rfl (slices_ContainsFunc_int_int_impl_areRunes_1.ok s A0p c0p p0 (HRp0.mono hS.mono) _ hu4) ?_
    rintro _ s4 ⟨rfl, hc⟩
    have hS' := hS.trans hc
    replace hS := hS'
    clear hS' hc
    try dsimp only [putL, setL, evL, getL]
    refine HL_want ?_ ?_
    · exact wantT (j := 4) (b := true) (t := 9) (c := decide ((p0.length : Int) ≤ p1)) rfl rfl rfl rfl hb3
    refine o_not rfl ?_
    try dsimp only [putL, setL, evL, getL]
    refine HL_cons rfl ?_
    refine o_pickT rfl hb3 ?_
    try dsimp only [putL, setL, evL, getL]
    refine HL_cons rfl ?_
    refine o_assign ?_
    try dsimp only [putL, setL, evL, getL]
    refine HL_nil ?_
    refine hK2 _ _ ?_
    refine HT_ret ?_
    obtain rfl := Option.some.inj (show some _ = some r from H)
    exact hQr _ _ [.bool (!u4)] ⟨rfl, trivial⟩ ⟨rfl, hS⟩
  · replace H := iteF hb3 H
    refine HL_skip ?_ ?_
    · exact wantF (j := 4) (b := true) (t := 9) (c := decide ((p0.length : Int) ≤ p1)) rfl rfl rfl rfl hb3
    try dsimp only [putL, setL, evL, getL]
    refine HL_skip ?_ ?_
    · exact wantF (j := 4) (b := true) (t := 9) (c := decide ((p0.length : Int) ≤ p1)) rfl rfl rfl rfl hb3
    try dsimp only [putL, setL, evL, getL]
    refine HL_skip ?_ ?_
    · exact wantF (j := 4) (b := true) (t := 9) (c := decide ((p0.length : Int) ≤ p1)) rfl rfl rfl rfl hb3
    try dsimp only [putL, setL, evL, getL]
    refine HL_cons rfl ?_
    refine o_pickF rfl hb3 ?_
    try dsimp only [putL, setL, evL, getL]
    refine HL_cons rfl ?_
    refine o_assign ?_
    try dsimp only [putL, setL, evL, getL]
    refine HL_nil ?_
    refine hK2 _ _ ?_
    refine HT_ret ?_
    obtain rfl := Option.some.inj (show some _ = some r from H)
    exact hQr _ _ [.bool false] ⟨rfl, trivial⟩ ⟨rfl, hS⟩
def impl_areShort_1.f (p0 : List (Int)) : Option Bool := (impl_areRunes.f p0 60).bind fun u3 => some (!u3)
def impl_areShort_1.post (s : St) (r : Bool) : Value → St → Prop := fun v s' => v = .bool r ∧ Sub s s'
set_option maxRecDepth 100000 in
set_option maxHeartbeats 4000000 in
theorem impl_areShort_1.ok (s : St) (A0p : Option Addr) (c0p : Nat) (p0 : List (Int)) (HRp0 : Rd (Kd.int .i64) s A0p c0p p0) (r : Bool) (H : impl_areShort_1.f p0 = some r) : GCall Try.prog 58 #[.slice A0p p0.length c0p] s (impl_areShort_1.post s r) := by
  refine GCall_ofk [.tmp 2] [.slice A0p p0.length c0p, undef, undef, undef, undef, undef] Try.func58 rfl rfl rfl ?_
  intro w Q hQr hQn hQp
  have hS := Sub.refl s
  replace H := topE H
  unfold impl_areShort_1.f at H
  refine HT_seq_k ?_
  intro K1 hK1
  refine HT_region ?_
  refine HL_cons rfl ?_
  refine o_assign ?_
  try dsimp only [putL, setL, evL, getL]
  refine HL_nil ?_
  refine hK1 _ _ ?_
  refine HT_seq_k ?_
  intro K2 hK2
  refine HT_region ?_
  refine HL_cons rfl ?_
  refine o_move ?_
  try dsimp only [putL, setL, evL, getL]
  obtain ⟨u3, hu3, H⟩ := headE H
  refine HL_cons rfl ?_
  refine o_call (args := #[.slice A0p p0.length c0p, .int .i64 60]) Try.func50 rfl rfl rfl (impl_areRunes.ok s A0p c0p p0 60 (HRp0.mono hS.mono) _ hu3) ?_
  rintro _ s3 ⟨rfl, hc⟩
  have hS' := hS.trans hc
  replace hS := hS'
  clear hS' hc
  try dsimp only [putL, setL, evL, getL]
  refine HL_cons rfl ?_
  refine o_not rfl ?_
  try dsimp only [putL, setL, evL, getL]
  refine HL_cons rfl ?_
  refine o_assign ?_
  try dsimp only [putL, setL, evL, getL]
  refine HL_nil ?_
  refine hK2 _ _ ?_
  refine HT_ret ?_
  obtain rfl := Option.some.inj (show some _ = some r from H)
  exact hQr _ _ [.bool (!u3)] ⟨rfl, trivial⟩ ⟨rfl, hS⟩
def slices_IndexFunc_int_int_impl_areShort_1.l1 (p0 : List (List (Int))) : Nat → Int → Option (Lo Unit Int)
  | 0, _ => none
  | kf + 1, x52 => if (decide (x52 < (p0.length : Int))) = true then ((rd? p0 x52).bind fun u72 => (impl_areShort_1.f u72).bind fun u74 => if u74 = true then ((some x52).bind fun z => some (Lo.ret z)) else (slices_IndexFunc_int_int_impl_areShort_1.l1 p0 kf (IntKind.i64.wrap (x52 + 1)))) else (some (Lo.go ()))
def slices_IndexFunc_int_int_impl_areShort_1.f (p0 : List (List (Int))) : Option Int := (slices_IndexFunc_int_int_impl_areShort_1.l1 p0 ((((p0.length : Int)) - (0)).toNat + 2) 0).bind fun (o : Lo Unit Int) => match o with | .go () => (some (-1)) | .ret z => some z
def slices_IndexFunc_int_int_impl_areShort_1.post (s : St) (r : Int) : Value → St → Prop := fun v s' => v = .int .i64 r ∧ Sub s s'
set_option maxRecDepth 100000 in
set_option maxHeartbeats 4000000 in
theorem slices_IndexFunc_int_int_impl_areShort_1.ok (s : St) (A0p : Option Addr) (c0p : Nat) (p0 : List (List (Int))) (HRp0 : Rd (Kd.sl (Kd.int .i64)) s A0p c0p p0) (r : Int) (H : slices_IndexFunc_int_int_impl_areShort_1.f p0 = some r) : GCall Try.prog 64 #[.slice A0p p0.length c0p, .func (.func 58) #[] #[]] s (slices_IndexFunc_int_int_impl_areShort_1.post s r) := by
  refine GCall_ofk [.tmp 4] [.slice A0p p0.length c0p, .func (.func 58) #[] #[], undef, undef, undef, undef, undef, undef, undef, undef, undef, undef, undef, undef, undef, undef, undef, undef, undef] Try.func64 rfl rfl rfl ?_
  intro w Q hQr hQn hQp
  have hS := Sub.refl s
  replace H := topE H
  unfold slices_IndexFunc_int_int_impl_areShort_1.f at H
  refine HT_seq_k ?_
  intro K1 hK1
  refine HT_region ?_
  refine HL_cons rfl ?_
  refine o_assign ?_
  try dsimp only [putL, setL, evL, getL]
  refine HL_nil ?_
  refine hK1 _ _ ?_
  refine HT_seq_k ?_
  intro K2 hK2
  refine HT_seq_k ?_
  intro K3 hK3
  refine HT_region ?_
  refine HL_cons rfl ?_
  refine o_move ?_
  try dsimp only [putL, setL, evL, getL]
  refine HL_cons rfl ?_
  refine o_len rfl Try.underlying63 ?_
  try dsimp only [putL, setL, evL, getL]
  refine HL_cons rfl ?_
  refine o_move ?_
  try dsimp only [putL, setL, evL, getL]
  refine HL_nil ?_
  refine hK3 _ _ ?_
  refine joinH H fun G4 hG4 H => ?_
  refine HT_toK (fun l' s' => G4 (.go ()) = some r ∧ l' = [.slice A0p p0.length c0p, .func (.func 58) #[] #[], undef, undef, getL l' 4, getL l' 5, .slice A0p p0.length c0p, .int .i64 (p0.length : Int), getL l' 8, getL l' 9, getL l' 10, getL l' 11, getL l' 12, getL l' 13, getL l' 14, getL l' 15, getL l' 16, getL l' 17, getL l' 18] ∧ Sub s s') ?_ ?_
  · intro K4 hK4
    refine HT_block ?_
    refine HT_loopK (fun kf l' s' => ∃ (x52 : Int), (slices_IndexFunc_int_int_impl_areShort_1.l1 p0 kf x52).bind G4 = some r ∧ l' = [.slice A0p p0.length c0p, .func (.func 58) #[] #[], undef, undef, getL l' 4, getL l' 5, .slice A0p p0.length c0p, .int .i64 (p0.length : Int), .int .i64 x52, getL l' 9, getL l' 10, getL l' 11, getL l' 12, getL l' 13, getL l' 14, getL l' 15, getL l' 16, getL l' 17, getL l' 18] ∧ Sub s s') ((((p0.length : Int)) - (0)).toNat + 2) ⟨0, H, rfl, hS⟩ ?_
    rintro kf l' s65 ⟨x52, H, hl, hS⟩ K65 hK65
    generalize getL l' 4 = j4, getL l' 5 = j5, getL l' 9 = j9, getL l' 10 = j10, getL l' 11 = j11, getL l' 12 = j12, getL l' 13 = j13, getL l' 14 = j14, getL l' 15 = j15, getL l' 16 = j16, getL l' 17 = j17, getL l' 18 = j18 at hl
    subst hl
    cases kf with
    | zero => simp [slices_IndexFunc_int_int_impl_areShort_1.l1] at H
    | succ kf =>
      rw [slices_IndexFunc_int_int_impl_areShort_1.l1] at H
      refine HT_seq_k ?_
      intro K66 hK66
      refine HT_region ?_
      refine HL_cons rfl ?_
      refine o_bin rfl rfl rfl ?_
      try dsimp only [putL, setL, evL, getL]
      refine HL_nil ?_
      refine hK66 _ _ ?_
      refine HT_seq_k ?_
      intro K67 hK67
      rcases Bool.eq_false_or_eq_true (decide (x52 < (p0.length : Int))) with hb68 | hb68
      · replace H := iteT hb68 H
        refine HT_true (congrArg Value.bool hb68) ?_
        refine HT_skip ?_
        refine hK67 _ _ ?_
        refine HT_seq_k ?_
        intro K69 hK69
        refine HT_block ?_
        refine HT_seq_k ?_
        intro K70 hK70
        refine HT_region ?_
        refine HL_cons rfl ?_
        refine o_move ?_
        try dsimp only [putL, setL, evL, getL]
        refine HL_cons rfl ?_
        refine o_assign ?_
        try dsimp only [putL, setL, evL, getL]
        refine HL_nil ?_
        refine hK70 _ _ ?_
        refine HT_seq_k ?_
        intro K71 hK71
        refine HT_region ?_
        refine HL_cons rfl ?_
        refine o_move ?_
        try dsimp only [putL, setL, evL, getL]
        refine HL_cons rfl ?_
        refine o_move ?_
        try dsimp only [putL, setL, evL, getL]
        refine HL_cons rfl ?_
        refine o_move ?_
        try dsimp only [putL, setL, evL, getL]
        obtain ⟨u72, hu72, H⟩ := headE H
        refine HL_cons rfl ?_
        refine o_el (K := (Kd.sl (Kd.int .i64))) (xs := p0) rfl rfl Try.underlying63 tI22 (HRp0.mono hS.mono) hu72 ?_
        intro b72 o72 cs72 hr72 hh72
        obtain ⟨A73, c73, rfl, D73⟩ := hr72
        try dsimp only [putL, setL, evL, getL]
        refine HL_cons rfl ?_
        refine o_load' rfl Try.underlying22 rfl (hh72 0 _ rfl) ?_
        try dsimp only [putL, setL, evL, getL]
        obtain ⟨u74, hu74, H⟩ := headE H
        refine HL_cons rfl ?_
        refine o_callv (first := #[]) (cap := #[]) (args := #[.slice A73 u72.length c73]) rfl Try.func58 rfl rfl [.slice A73 u72.length c73] rfl (by simp) (impl_areShort_1.ok s65 A73 c73 u72 D73 _ hu74) ?_
        rintro _ s74 ⟨rfl, hc⟩
        have hS' := hS.trans hc
        replace D73 := D73.mono hc.mono
        replace hS := hS'
        clear hS' hc
        try dsimp only [putL, setL, evL, getL]
        refine HL_nil ?_
        refine hK71 _ _ ?_
        rcases Bool.eq_false_or_eq_true u74 with hb75 | hb75
        · replace H := iteT hb75 H
          refine HT_true (congrArg Value.bool hb75) ?_
          refine HT_seq_k ?_
          intro K76 hK76
          refine HT_region ?_
          refine HL_cons rfl ?_
          refine o_move ?_
          try dsimp only [putL, setL, evL, getL]
          refine HL_cons rfl ?_
          refine o_assign ?_
          try dsimp only [putL, setL, evL, getL]
          refine HL_nil ?_
          refine hK76 _ _ ?_
          refine HT_ret ?_
          replace H := escH (fun z hz => hG4 _ hz) H
          obtain rfl := Option.some.inj (show some _ = some r from H)
          exact hQr _ _ [.int .i64 x52] ⟨rfl, trivial⟩ ⟨rfl, hS⟩
        · replace H := iteF hb75 H
          refine HT_false (congrArg Value.bool hb75) ?_
          refine HT_skip ?_
          refine hK69 _ _ ?_
          refine HT_region ?_
          refine HL_cons rfl ?_
          refine o_bin rfl rfl rfl ?_
          try dsimp only [putL, setL, evL, getL]
          refine HL_cons rfl ?_
          refine o_move ?_
          try dsimp only [putL, setL, evL, getL]
          refine HL_nil ?_
          exact hK65 _ _ ⟨kf, Nat.lt_succ_self kf, IntKind.i64.wrap (x52 + 1), H, rfl, hS⟩
      · replace H := iteF hb68 H
        refine HT_false (congrArg Value.bool hb68) ?_
        refine HT_exit ?_
        exact hK4 _ _ ⟨H, rfl, hS⟩
  · rintro l' s77 ⟨H, hl, hS⟩
    generalize getL l' 4 = j4, getL l' 5 = j5, getL l' 8 = j8, getL l' 9 = j9, getL l' 10 = j10, getL l' 11 = j11, getL l' 12 = j12, getL l' 13 = j13, getL l' 14 = j14, getL l' 15 = j15, getL l' 16 = j16, getL l' 17 = j17, getL l' 18 = j18 at hl
    subst hl
    replace H := hG4 _ H
    try dsimp only at H
    refine hK2 _ _ ?_
    refine HT_seq_k ?_
    intro K78 hK78
    refine HT_region ?_
    refine HL_cons rfl ?_
    refine o_assign ?_
    try dsimp only [putL, setL, evL, getL]
    refine HL_nil ?_
    refine hK78 _ _ ?_
    refine HT_ret ?_
    obtain rfl := Option.some.inj (show some _ = some r from H)
    exact hQr _ _ [.int .i64 (-1)] ⟨rfl, trivial⟩ ⟨rfl, hS⟩
def slices_ContainsFunc_int_int_impl_areShort_1.f (p0 : List (List (Int))) : Option Bool := (slices_IndexFunc_int_int_impl_areShort_1.f p0).bind fun u3 => some (decide (u3 ≥ 0))
def slices_ContainsFunc_int_int_impl_areShort_1.post (s : St) (r : Bool) : Value → St → Prop := fun v s' => v = .bool r ∧ Sub s s'
set_option maxRecDepth 100000 in
set_option maxHeartbeats 4000000 in
theorem slices_ContainsFunc_int_int_impl_areShort_1.ok (s : St) (A0p : Option Addr) (c0p : Nat) (p0 : List (List (Int))) (HRp0 : Rd (Kd.sl (Kd.int .i64)) s A0p c0p p0) (r : Bool) (H : slices_ContainsFunc_int_int_impl_areShort_1.f p0 = some r) : GCall Try.prog 57 #[.slice A0p p0.length c0p, .func (.func 58) #[] #[]] s (slices_ContainsFunc_int_int_impl_areShort_1.post s r) := by
  refine GCall_ofk [.tmp 4] [.slice A0p p0.length c0p, .func (.func 58) #[] #[], undef, undef, undef, undef, undef, undef, undef] Try.func57 rfl rfl rfl ?_
  intro w Q hQr hQn hQp
  have hS := Sub.refl s
  replace H := topE H
  unfold slices_ContainsFunc_int_int_impl_areShort_1.f at H
  refine HT_seq_k ?_
  intro K1 hK1
  refine HT_region ?_
  refine HL_cons rfl ?_
  refine o_assign ?_
  try dsimp only [putL, setL, evL, getL]
  refine HL_nil ?_
  refine hK1 _ _ ?_
  refine HT_seq_k ?_
  intro K2 hK2
  refine HT_region ?_
  refine HL_cons rfl ?_
  refine o_move ?_
  try dsimp only [putL, setL, evL, getL]
  refine HL_cons rfl ?_
  refine o_move ?_
  try dsimp only [putL, setL, evL, getL]
  obtain ⟨u3, hu3, H⟩ := headE H
  refine HL_cons rfl ?_
  refine o_call (args := #[.slice A0p p0.length c0p, .func (.func 58) #[] #[]]) Try.func64 rfl rfl rfl (slices_IndexFunc_int_int_impl_areShort_1.ok s A0p c0p p0 (HRp0.mono hS.mono) _ hu3) ?_
  rintro _ s3 ⟨rfl, hc⟩
  have hS' := hS.trans hc
  replace hS := hS'
  clear hS' hc
  try dsimp only [putL, setL, evL, getL]
  refine HL_cons rfl ?_
  refine o_bin rfl rfl rfl ?_
  try dsimp only [putL, setL, evL, getL]
  refine HL_cons rfl ?_
  refine o_assign ?_
  try dsimp only [putL, setL, evL, getL]
  refine HL_nil ?_
  refine hK2 _ _ ?_
  refine HT_ret ?_
  obtain rfl := Option.some.inj (show some _ = some r from H)
  exact hQr _ _ [.bool (decide (u3 ≥ 0))] ⟨rfl, trivial⟩ ⟨rfl, hS⟩
def impl_areShort.f (p0 : List (List (Int))) : Option Bool := (slices_ContainsFunc_int_int_impl_areShort_1.f p0).bind fun u3 => some (!u3)
def impl_areShort.post (s : St) (r : Bool) : Value → St → Prop := fun v s' => v = .bool r ∧ Sub s s'
set_option maxRecDepth 100000 in
set_option maxHeartbeats 4000000 in
theorem impl_areShort.ok (s : St) (A0p : Option Addr) (c0p : Nat) (p0 : List (List (Int))) (HRp0 : Rd (Kd.sl (Kd.int .i64)) s A0p c0p p0) (r : Bool) (H : impl_areShort.f p0 = some r) : GCall Try.prog 41 #[.slice A0p p0.length c0p] s (impl_areShort.post s r) := by
  refine GCall_ofk [.tmp 2] [.slice A0p p0.length c0p, undef, undef, undef, undef, undef] Try.func41 rfl rfl rfl ?_
  intro w Q hQr hQn hQp
  have hS := Sub.refl s
  replace H := topE H
  unfold impl_areShort.f at H
  refine HT_seq_k ?_
  intro K1 hK1
  refine HT_region ?_
  refine HL_cons rfl ?_
  refine o_assign ?_
  try dsimp only [putL, setL, evL, getL]
  refine HL_nil ?_
  refine hK1 _ _ ?_
  refine HT_seq_k ?_
  intro K2 hK2
  refine HT_region ?_
  refine HL_cons rfl ?_
  refine o_move ?_
  try dsimp only [putL, setL, evL, getL]
  obtain ⟨u3, hu3, H⟩ := headE H
  refine HL_cons rfl ?_
  refine o_call (args := #[.slice A0p p0.length c0p, .func (.func 58) #[] #[]]) Try.func57 rfl rfl rfl (slices_ContainsFunc_int_int_impl_areShort_1.ok s A0p c0p p0 (HRp0.mono hS.mono) _ hu3) ?_
  rintro _ s3 ⟨rfl, hc⟩
  have hS' := hS.trans hc
  replace hS := hS'
  clear hS' hc
  try dsimp only [putL, setL, evL, getL]
  refine HL_cons rfl ?_
  refine o_not rfl ?_
  try dsimp only [putL, setL, evL, getL]
  refine HL_cons rfl ?_
  refine o_assign ?_
  try dsimp only [putL, setL, evL, getL]
  refine HL_nil ?_
  refine hK2 _ _ ?_
  refine HT_ret ?_
  obtain rfl := Option.some.inj (show some _ = some r from H)
  exact hQr _ _ [.bool (!u3)] ⟨rfl, trivial⟩ ⟨rfl, hS⟩
def impl_firstRow.l1 (p0 : Int) : Nat → (List (Int)) → Int → Option (List (Int))
  | 0, _, _ => none
  | kf + 1, x41, x42 => if (decide (x42 < (IntKind.i64.wrap (p0 + 1)))) = true then ((app? 17592186044416 x41 [x42]).bind fun x59 => impl_firstRow.l1 p0 kf x59 (IntKind.i64.wrap (x42 + 1))) else (some x41)
def impl_firstRow.f (p0 : Int) : Option (List (Int)) := (impl_firstRow.l1 p0 (((IntKind.i64.wrap (p0 + 1)) - (0)).toNat + 2) ([] : List (Int)) 0).bind fun (o : (List (Int))) => match o with | x33 => (some x33)
def impl_firstRow.post (s : St) (r : (List (Int))) : Value → St → Prop := fun v s' => ∃ (A0 : Option Addr) (c0 : Nat), v = .slice A0 r.length c0 ∧ Own.is (Kd.int .i64) 3 s' A0 c0 r ∧ NewA s (eff A0 c0) ∧ Sub s s'
set_option maxRecDepth 100000 in
set_option maxHeartbeats 4000000 in
theorem impl_firstRow.ok (s : St) (p0 : Int) (r : (List (Int))) (H : impl_firstRow.f p0 = some r) : GCall Try.prog 47 #[.int .i64 p0] s (impl_firstRow.post s r) := by
  refine GCall_ofk [.tmp 2] [.int .i64 p0, undef, undef, undef, undef, undef, undef, undef, undef, undef, undef, undef, undef, undef, undef, undef, undef] Try.func47 rfl rfl rfl ?_
  intro w Q hQr hQn hQp
  have hS := Sub.refl s
  replace H := topE H
  unfold impl_firstRow.f at H
  refine HT_seq_k ?_
  intro K1 hK1
  refine HT_region ?_
  refine HL_cons rfl ?_
  refine o_assign ?_
  try dsimp only [putL, setL, evL, getL]
  refine HL_nil ?_
  refine hK1 _ _ ?_
  refine HT_seq_k ?_
  intro K2 hK2
  refine HT_region ?_
  refine HL_cons rfl ?_
  refine o_lit0' (α := Int) (K := (Kd.int .i64)) Try.underlying22 tI3 ?_
  intro A3 s3 O3 N3 hc
  replace N3 := N3.of hS
  have hS' := hS.trans hc
  replace hS := hS'
  clear hS' hc
  try dsimp only [putL, setL, evL, getL]
  refine HL_cons rfl ?_
  refine o_assign ?_
  try dsimp only [putL, setL, evL, getL]
  refine HL_nil ?_
  refine hK2 _ _ ?_
  refine HT_seq_k ?_
  intro K4 hK4
  refine HT_seq_k ?_
  intro K5 hK5
  refine HT_region ?_
  refine HL_cons rfl ?_
  refine o_move ?_
  try dsimp only [putL, setL, evL, getL]
  refine HL_cons rfl ?_
  refine o_bin rfl rfl rfl ?_
  try dsimp only [putL, setL, evL, getL]
  refine HL_cons rfl ?_
  refine o_move ?_
  try dsimp only [putL, setL, evL, getL]
  refine HL_nil ?_
  refine hK5 _ _ ?_
  refine joinH H fun G6 hG6 H => ?_
  refine HT_toK (fun l' s' => ∃ (x33 : List (Int)) (A33 : Option Addr) (c33 : Nat), G6 x33 = some r ∧ l' = [.int .i64 p0, undef, .slice none 0 0, .slice A33 x33.length c33, getL l' 4, .slice A3 ([] : List (Int)).length 0, .int .i64 p0, .int .i64 (IntKind.i64.wrap (p0 + 1)), getL l' 8, getL l' 9, getL l' 10, getL l' 11, getL l' 12, getL l' 13, getL l' 14, getL l' 15, undef] ∧ Sub s s' ∧ Own.is (Kd.int .i64) 3 s' A33 c33 x33 ∧ NewA s (eff A33 c33)) ?_ ?_
  · intro K6 hK6
    refine HT_block ?_
    refine HT_loopK (fun kf l' s' => ∃ (x41 : List (Int)) (A41 : Option Addr) (c41 : Nat) (x42 : Int), (impl_firstRow.l1 p0 kf x41 x42).bind G6 = some r ∧ l' = [.int .i64 p0, undef, .slice none 0 0, .slice A41 x41.length c41, getL l' 4, .slice A3 ([] : List (Int)).length 0, .int .i64 p0, .int .i64 (IntKind.i64.wrap (p0 + 1)), .int .i64 x42, getL l' 9, getL l' 10, getL l' 11, getL l' 12, getL l' 13, getL l' 14, getL l' 15, undef] ∧ Sub s s' ∧ Own.is (Kd.int .i64) 3 s' A41 c41 x41 ∧ NewA s (eff A41 c41)) (((IntKind.i64.wrap (p0 + 1)) - (0)).toNat + 2) ⟨([] : List (Int)), A3, 0, 0, H, rfl, hS, O3, N3⟩ ?_
    rintro kf l' s52 ⟨x41, A41, c41, x42, H, hl, hS, O41, N41⟩ K52 hK52
    generalize getL l' 4 = j4, getL l' 9 = j9, getL l' 10 = j10, getL l' 11 = j11, getL l' 12 = j12, getL l' 13 = j13, getL l' 14 = j14, getL l' 15 = j15 at hl
    subst hl
    cases kf with
    | zero => simp [impl_firstRow.l1] at H
    | succ kf =>
      rw [impl_firstRow.l1] at H
      refine HT_seq_k ?_
      intro K53 hK53
      refine HT_region ?_
      refine HL_cons rfl ?_
      refine o_bin rfl rfl rfl ?_
      try dsimp only [putL, setL, evL, getL]
      refine HL_nil ?_
      refine hK53 _ _ ?_
      refine HT_seq_k ?_
      intro K54 hK54
      rcases Bool.eq_false_or_eq_true (decide (x42 < (IntKind.i64.wrap (p0 + 1)))) with hb55 | hb55
      · replace H := iteT hb55 H
        refine HT_true (congrArg Value.bool hb55) ?_
        refine HT_skip ?_
        refine hK54 _ _ ?_
        refine HT_seq_k ?_
        intro K56 hK56
        refine HT_block ?_
        refine HT_seq_k ?_
        intro K57 hK57
        refine HT_region ?_
        refine HL_cons rfl ?_
        refine o_move ?_
        try dsimp only [putL, setL, evL, getL]
        refine HL_cons rfl ?_
        refine o_assign ?_
        try dsimp only [putL, setL, evL, getL]
        refine HL_nil ?_
        refine hK57 _ _ ?_
        refine HT_region ?_
        refine HL_cons rfl ?_
        refine o_move ?_
        try dsimp only [putL, setL, evL, getL]
        refine HL_cons rfl ?_
        refine o_move ?_
        try dsimp only [putL, setL, evL, getL]
        refine HL_cons rfl ?_
        refine o_lit' (K := (Kd.int .i64)) (cs := #[.int .i64 x42]) [[.int .i64 x42]] [x42] Try.underlying22 tI3 rfl (by decide) rfl rfl rfl rfl ⟨rfl, trivial⟩ ?_
        intro A58 s58 O58 N58 hc
        have P41_58 := O41.apart N58
        replace N58 := N58.of hS
        have hS' := hS.trans hc
        replace O41 := O41.sub hc
        replace hS := hS'
        clear hS' hc
        try dsimp only [putL, setL, evL, getL]
        obtain ⟨x59, hx59, H⟩ := headE H
        refine HL_cons rfl ?_
        refine o_append' (K := (Kd.int .i64)) (n := 17592186044416) (A := A41) (c := c41) (xs := x41) (ys := [x42]) (B := A58) (c2 := 1) rfl rfl Try.underlying22 tI3 rfl (by decide) (by decide) (by decide) O41 O58.rd hx59 ?_
        rintro _ s59 ⟨A59, c59, rfl, O59, hc, hA59⟩
        have N59 := NewA.step hA59 N41 hS
        have P58_59 := Apart.step (P41_58.symm) hA59 O58
        have hS' := hS.app hc N41
        replace O58 := O58.chg hc (fun b hb => (P41_58.symm) b hb)
        replace hS := hS'
        clear hS' hc
        try dsimp only [putL, setL, evL, getL]
        refine HL_cons rfl ?_
        refine o_assign ?_
        try dsimp only [putL, setL, evL, getL]
        refine HL_nil ?_
        refine hK56 _ _ ?_
        refine HT_region ?_
        refine HL_cons rfl ?_
        refine o_bin rfl rfl rfl ?_
        try dsimp only [putL, setL, evL, getL]
        refine HL_cons rfl ?_
        refine o_move ?_
        try dsimp only [putL, setL, evL, getL]
        refine HL_nil ?_
        exact hK52 _ _ ⟨kf, Nat.lt_succ_self kf, x59, A59, c59, IntKind.i64.wrap (x42 + 1), H, rfl, hS, O59, N59⟩
      · replace H := iteF hb55 H
        refine HT_false (congrArg Value.bool hb55) ?_
        refine HT_exit ?_
        exact hK6 _ _ ⟨x41, A41, c41, H, rfl, hS, O41, N41⟩
  · rintro l' s60 ⟨x33, A33, c33, H, hl, hS, O33, N33⟩
    generalize getL l' 4 = j4, getL l' 8 = j8, getL l' 9 = j9, getL l' 10 = j10, getL l' 11 = j11, getL l' 12 = j12, getL l' 13 = j13, getL l' 14 = j14, getL l' 15 = j15 at hl
    subst hl
    replace H := hG6 _ H
    try dsimp only at H
    refine hK4 _ _ ?_
    refine HT_seq_k ?_
    intro K61 hK61
    refine HT_region ?_
    refine HL_cons rfl ?_
    refine o_move ?_
    try dsimp only [putL, setL, evL, getL]
    refine HL_cons rfl ?_
    refine o_assign ?_
    try dsimp only [putL, setL, evL, getL]
    refine HL_nil ?_
    refine hK61 _ _ ?_
    refine HT_ret ?_
    obtain rfl := Option.some.inj (show some _ = some r from H)
    exact hQr _ _ [.slice A33 x33.length c33] ⟨rfl, trivial⟩ ⟨A33, c33, rfl, O33, N33, hS⟩
def impl_nextRow.l1 (p0 : List (Int)) (p1 : Int) (p2 : List (Int)) : Nat → (List (Int)) → Int → Option (List (Int))
  | 0, _, _ => none
  | kf + 1, x154, x155 => if (decide (x155 < (p2.length : Int))) = true then ((rd? p2 x155).bind fun u215 => (rd? p0 x155).bind fun u217 => (if (u215 != p1) = true then (some (IntKind.i64.wrap (u217 + 1))) else (some u217)).bind fun (o : Int) => match o with | x221 => ((rd? p0 (IntKind.i64.wrap (x155 + 1))).bind fun u225 => (rd? x154 x155).bind fun u226 => (app? 17592186044416 x154 [min x221 (min (IntKind.i64.wrap (u225 + 1)) (IntKind.i64.wrap (u226 + 1)))]).bind fun x228 => impl_nextRow.l1 p0 p1 p2 kf x228 (IntKind.i64.wrap (x155 + 1)))) else (some x154)
def impl_nextRow.f (p0 : List (Int)) (p1 : Int) (p2 : List (Int)) : Option (List (Int)) := (rd? p0 0).bind fun u3 => (impl_nextRow.l1 p0 p1 p2 ((((p2.length : Int)) - (0)).toNat + 2) [IntKind.i64.wrap (u3 + 1)] 0).bind fun (o : (List (Int))) => match o with | x118 => (some x118)
def impl_nextRow.post (s : St) (r : (List (Int))) : Value → St → Prop := fun v s' => ∃ (A0 : Option Addr) (c0 : Nat), v = .slice A0 r.length c0 ∧ Own.is (Kd.int .i64) 3 s' A0 c0 r ∧ NewA s (eff A0 c0) ∧ Sub s s'
set_option maxRecDepth 100000 in
set_option maxHeartbeats 4000000 in
theorem impl_nextRow.ok (s : St) (A0p : Option Addr) (c0p : Nat) (p0 : List (Int)) (p1 : Int) (A2p : Option Addr) (c2p : Nat) (p2 : List (Int)) (HRp0 : Rd (Kd.int .i64) s A0p c0p p0) (HRp2 : Rd (Kd.int .i64) s A2p c2p p2) (r : (List (Int))) (H : impl_nextRow.f p0 p1 p2 = some r) : GCall Try.prog 48 #[.slice A0p p0.length c0p, .int .i64 p1, .slice A2p p2.length c2p] s (impl_nextRow.post s r) := by
  refine GCall_ofk [.tmp 6] [.slice A0p p0.length c0p, .int .i64 p1, .slice A2p p2.length c2p, undef, undef, undef, undef, undef, undef, undef, undef, undef, undef, undef, undef, undef, undef, undef, undef, undef, undef, undef, undef, undef, undef, undef, undef, undef, undef, undef, undef, undef, undef, undef, undef, undef, undef, undef, undef, undef, undef, undef, undef, undef, undef, undef, undef, undef, undef, undef] Try.func48 rfl rfl rfl ?_
  intro w Q hQr hQn hQp
  have hS := Sub.refl s
  replace H := topE H
  unfold impl_nextRow.f at H
  refine HT_seq_k ?_
  intro K1 hK1
  refine HT_region ?_
  refine HL_cons rfl ?_
  refine o_assign ?_
  try dsimp only [putL, setL, evL, getL]
  refine HL_nil ?_
  refine hK1 _ _ ?_
  refine HT_seq_k ?_
  intro K2 hK2
  refine HT_region ?_
  refine HL_cons rfl ?_
  refine o_move ?_
  try dsimp only [putL, setL, evL, getL]
  obtain ⟨u3, hu3, H⟩ := headE H
  refine HL_cons rfl ?_
  refine o_el (K := (Kd.int .i64)) (xs := p0) rfl rfl Try.underlying22 tI3 (HRp0.mono hS.mono) hu3 ?_
  intro b3 o3 cs3 hr3 hh3
  obtain rfl := hr3
  try dsimp only [putL, setL, evL, getL]
  refine HL_cons rfl ?_
  refine o_load' rfl Try.underlying3 rfl (hh3 0 _ rfl) ?_
  try dsimp only [putL, setL, evL, getL]
  refine HL_cons rfl ?_
  refine o_bin rfl rfl rfl ?_
  try dsimp only [putL, setL, evL, getL]
  refine HL_cons rfl ?_
  refine o_lit' (K := (Kd.int .i64)) (cs := #[.int .i64 (IntKind.i64.wrap (u3 + 1))]) [[.int .i64 (IntKind.i64.wrap (u3 + 1))]] [IntKind.i64.wrap (u3 + 1)] Try.underlying22 tI3 rfl (by decide) rfl rfl rfl rfl ⟨rfl, trivial⟩ ?_
  intro A4 s4 O4 N4 hc
  replace N4 := N4.of hS
  have hS' := hS.trans hc
  replace hS := hS'
  clear hS' hc
  try dsimp only [putL, setL, evL, getL]
  refine HL_cons rfl ?_
  refine o_assign ?_
  try dsimp only [putL, setL, evL, getL]
  refine HL_nil ?_
  refine hK2 _ _ ?_
  refine HT_seq_k ?_
  intro K5 hK5
  refine HT_seq_k ?_
  intro K6 hK6
  refine HT_region ?_
  refine HL_cons rfl ?_
  refine o_move ?_
  try dsimp only [putL, setL, evL, getL]
  refine HL_cons rfl ?_
  refine o_len rfl Try.underlying22 ?_
  try dsimp only [putL, setL, evL, getL]
  refine HL_cons rfl ?_
  refine o_move ?_
  try dsimp only [putL, setL, evL, getL]
  refine HL_nil ?_
  refine hK6 _ _ ?_
  refine joinH H fun G7 hG7 H => ?_
  refine HT_toK (fun l' s' => ∃ (x118 : List (Int)) (A118 : Option Addr) (c118 : Nat), G7 x118 = some r ∧ l' = [.slice A0p p0.length c0p, .int .i64 p1, .slice A2p p2.length c2p, undef, undef, undef, .slice none 0 0, .slice A118 x118.length c118, getL l' 8, getL l' 9, getL l' 10, .slice A0p p0.length c0p, .pointer (some ⟨b3, o3, none⟩), .int .i64 u3, .int .i64 (IntKind.i64.wrap (u3 + 1)), .slice A4 [IntKind.i64.wrap (u3 + 1)].length 1, .slice A2p p2.length c2p, .int .i64 (p2.length : Int), getL l' 18, getL l' 19, getL l' 20, getL l' 21, getL l' 22, getL l' 23, getL l' 24, getL l' 25, getL l' 26, getL l' 27, getL l' 28, getL l' 29, getL l' 30, getL l' 31, getL l' 32, getL l' 33, getL l' 34, getL l' 35, getL l' 36, getL l' 37, getL l' 38, getL l' 39, getL l' 40, getL l' 41, getL l' 42, getL l' 43, getL l' 44, getL l' 45, getL l' 46, getL l' 47, getL l' 48, undef] ∧ Sub s s' ∧ Own.is (Kd.int .i64) 3 s' A118 c118 x118 ∧ NewA s (eff A118 c118)) ?_ ?_
  · intro K7 hK7
    refine HT_block ?_
    refine HT_loopK (fun kf l' s' => ∃ (x154 : List (Int)) (A154 : Option Addr) (c154 : Nat) (x155 : Int), (impl_nextRow.l1 p0 p1 p2 kf x154 x155).bind G7 = some r ∧ l' = [.slice A0p p0.length c0p, .int .i64 p1, .slice A2p p2.length c2p, undef, undef, undef, .slice none 0 0, .slice A154 x154.length c154, getL l' 8, getL l' 9, getL l' 10, .slice A0p p0.length c0p, .pointer (some ⟨b3, o3, none⟩), .int .i64 u3, .int .i64 (IntKind.i64.wrap (u3 + 1)), .slice A4 [IntKind.i64.wrap (u3 + 1)].length 1, .slice A2p p2.length c2p, .int .i64 (p2.length : Int), .int .i64 x155, getL l' 19, getL l' 20, getL l' 21, getL l' 22, getL l' 23, getL l' 24, getL l' 25, getL l' 26, getL l' 27, getL l' 28, getL l' 29, getL l' 30, getL l' 31, getL l' 32, getL l' 33, getL l' 34, getL l' 35, getL l' 36, getL l' 37, getL l' 38, getL l' 39, getL l' 40, getL l' 41, getL l' 42, getL l' 43, getL l' 44, getL l' 45, getL l' 46, getL l' 47, getL l' 48, undef] ∧ Sub s s' ∧ Own.is (Kd.int .i64) 3 s' A154 c154 x154 ∧ NewA s (eff A154 c154)) ((((p2.length : Int)) - (0)).toNat + 2) ⟨[IntKind.i64.wrap (u3 + 1)], A4, 1, 0, H, rfl, hS, O4, N4⟩ ?_
    rintro kf l' s193 ⟨x154, A154, c154, x155, H, hl, hS, O154, N154⟩ K193 hK193
    generalize getL l' 8 = j8, getL l' 9 = j9, getL l' 10 = j10, getL l' 19 = j19, getL l' 20 = j20, getL l' 21 = j21, getL l' 22 = j22, getL l' 23 = j23, getL l' 24 = j24, getL l' 25 = j25, getL l' 26 = j26, getL l' 27 = j27, getL l' 28 = j28, getL l' 29 = j29, getL l' 30 = j30, getL l' 31 = j31, getL l' 32 = j32, getL l' 33 = j33, getL l' 34 = j34, getL l' 35 = j35, getL l' 36 = j36, getL l' 37 = j37, getL l' 38 = j38, getL l' 39 = j39, getL l' 40 = j40, getL l' 41 = j41, getL l' 42 = j42, getL l' 43 = j43, getL l' 44 = j44, getL l' 45 = j45, getL l' 46 = j46, getL l' 47 = j47, getL l' 48 = j48 at hl
    subst hl
    cases kf with
    | zero => simp [impl_nextRow.l1] at H
    | succ kf =>
      rw [impl_nextRow.l1] at H
      refine HT_seq_k ?_
      intro K194 hK194
      refine HT_region ?_
      refine HL_cons rfl ?_
      refine o_bin rfl rfl rfl ?_
      try dsimp only [putL, setL, evL, getL]
      refine HL_nil ?_
      refine hK194 _ _ ?_
      refine HT_seq_k ?_
      intro K195 hK195
      rcases Bool.eq_false_or_eq_true (decide (x155 < (p2.length : Int))) with hb196 | hb196
      · replace H := iteT hb196 H
        refine HT_true (congrArg Value.bool hb196) ?_
        refine HT_skip ?_
        refine hK195 _ _ ?_
        refine HT_seq_k ?_
        intro K213 hK213
        refine HT_block ?_
        refine HT_seq_k ?_
        intro K214 hK214
        refine HT_region ?_
        refine HL_cons rfl ?_
        refine o_move ?_
        try dsimp only [putL, setL, evL, getL]
        obtain ⟨u215, hu215, H⟩ := headE H
        refine HL_cons rfl ?_
        refine o_el (K := (Kd.int .i64)) (xs := p2) rfl rfl Try.underlying22 tI3 (HRp2.mono hS.mono) hu215 ?_
        intro b215 o215 cs215 hr215 hh215
        obtain rfl := hr215
        try dsimp only [putL, setL, evL, getL]
        refine HL_cons rfl ?_
        refine o_load' rfl Try.underlying3 rfl (hh215 0 _ rfl) ?_
        try dsimp only [putL, setL, evL, getL]
        refine HL_cons rfl ?_
        refine o_assign ?_
        try dsimp only [putL, setL, evL, getL]
        refine HL_cons rfl ?_
        refine o_assign ?_
        try dsimp only [putL, setL, evL, getL]
        refine HL_nil ?_
        refine hK214 _ _ ?_
        refine HT_seq_k ?_
        intro K216 hK216
        refine HT_region ?_
        refine HL_cons rfl ?_
        refine o_move ?_
        try dsimp only [putL, setL, evL, getL]
        refine HL_cons rfl ?_
        refine o_move ?_
        try dsimp only [putL, setL, evL, getL]
        obtain ⟨u217, hu217, H⟩ := headE H
        refine HL_cons rfl ?_
        refine o_el (K := (Kd.int .i64)) (xs := p0) rfl rfl Try.underlying22 tI3 (HRp0.mono hS.mono) hu217 ?_
        intro b217 o217 cs217 hr217 hh217
        obtain rfl := hr217
        try dsimp only [putL, setL, evL, getL]
        refine HL_cons rfl ?_
        refine o_load' rfl Try.underlying3 rfl (hh217 0 _ rfl) ?_
        try dsimp only [putL, setL, evL, getL]
        refine HL_cons rfl ?_
        refine o_assign ?_
        try dsimp only [putL, setL, evL, getL]
        refine HL_nil ?_
        refine hK216 _ _ ?_
        refine joinH H fun G218 hG218 H => ?_
        refine HT_joinK (fun l' s' => ∃ (x221 : Int), G218 x221 = some r ∧ l' = [.slice A0p p0.length c0p, .int .i64 p1, .slice A2p p2.length c2p, undef, undef, undef, .slice none 0 0, .slice A154 x154.length c154, .int .i64 x155, .int .i64 u215, .int .i64 x221, .slice A0p p0.length c0p, .pointer (some ⟨b3, o3, none⟩), .int .i64 u3, .int .i64 (IntKind.i64.wrap (u3 + 1)), .slice A4 [IntKind.i64.wrap (u3 + 1)].length 1, .slice A2p p2.length c2p, .int .i64 (p2.length : Int), .int .i64 x155, .bool (decide (x155 < (p2.length : Int))), .int .i64 x155, .pointer (some ⟨b215, o215, none⟩), .int .i64 u215, .slice A0p p0.length c0p, .int .i64 x155, .pointer (some ⟨b217, o217, none⟩), .int .i64 u217, getL l' 27, getL l' 28, getL l' 29, getL l' 30, getL l' 31, j32, j33, j34, j35, j36, j37, j38, j39, j40, j41, j42, j43, j44, j45, j46, j47, j48, undef] ∧ Sub s s' ∧ Own.is (Kd.int .i64) 3 s' A154 c154 x154 ∧ NewA s (eff A154 c154)) ?_ ?_
        · intro K218 hK218
          refine HT_seq_k ?_
          intro K222 hK222
          refine HT_region ?_
          refine HL_cons rfl ?_
          refine o_move ?_
          try dsimp only [putL, setL, evL, getL]
          refine HL_cons rfl ?_
          refine o_move ?_
          try dsimp only [putL, setL, evL, getL]
          refine HL_cons rfl ?_
          refine o_bin rfl rfl rfl ?_
          try dsimp only [putL, setL, evL, getL]
          refine HL_nil ?_
          refine hK222 _ _ ?_
          rcases Bool.eq_false_or_eq_true (u215 != p1) with hb223 | hb223
          · replace H := iteT hb223 H
            refine HT_true (congrArg Value.bool hb223) ?_
            refine HT_region ?_
            refine HL_cons rfl ?_
            refine o_move ?_
            try dsimp only [putL, setL, evL, getL]
            refine HL_cons rfl ?_
            refine o_bin rfl rfl rfl ?_
            try dsimp only [putL, setL, evL, getL]
            refine HL_cons rfl ?_
            refine o_assign ?_
            try dsimp only [putL, setL, evL, getL]
            refine HL_nil ?_
            exact hK218 _ _ ⟨IntKind.i64.wrap (u217 + 1), H, rfl, hS, O154, N154⟩
          · replace H := iteF hb223 H
            refine HT_false (congrArg Value.bool hb223) ?_
            refine HT_skip ?_
            exact hK218 _ _ ⟨u217, H, rfl, hS, O154, N154⟩
        · rintro l' s224 ⟨x221, H, hl, hS, O154, N154⟩
          generalize getL l' 27 = j27, getL l' 28 = j28, getL l' 29 = j29, getL l' 30 = j30, getL l' 31 = j31 at hl
          subst hl
          replace H := hG218 _ H
          try dsimp only at H
          refine HK_draw (fun s' => Gro s224 s') 18 hMix ?_
          have hR := Gro.refl s224
          refine HK_read 0 (v := .slice A154 x154.length c154) rfl (by kernel_rfl) (fun c l s h => hQp c l s h) rfl (fun s' hR' K hK => ?_) rfl rfl hR ?_
          · refine o_move ?_
            exact hK
          try dsimp only [putL, setL, evL, getL]
          refine HK_read 1 (v := .int .i64 x221) rfl (by kernel_rfl) (fun c l s h => hQp c l s h) rfl (fun s' hR' K hK => ?_) rfl rfl hR ?_
          · refine o_move ?_
            exact hK
          try dsimp only [putL, setL, evL, getL]
          refine HK_read 2 (v := .slice A0p p0.length c0p) rfl (by kernel_rfl) (fun c l s h => hQp c l s h) rfl (fun s' hR' K hK => ?_) rfl rfl hR ?_
          · refine o_move ?_
            exact hK
          try dsimp only [putL, setL, evL, getL]
          refine HK_read 3 (v := .int .i64 x155) rfl (by kernel_rfl) (fun c l s h => hQp c l s h) rfl (fun s' hR' K hK => ?_) rfl rfl hR ?_
          · refine o_move ?_
            exact hK
          try dsimp only [putL, setL, evL, getL]
          refine HK_read 4 (v := .int .i64 (IntKind.i64.wrap (x155 + 1))) rfl (by kernel_rfl) (fun c l s h => hQp c l s h) rfl (fun s' hR' K hK => ?_) rfl rfl hR ?_
          · refine o_bin rfl rfl rfl ?_
            exact hK
          try dsimp only [putL, setL, evL, getL]
          obtain ⟨u225, hu225, H⟩ := headE H
          obtain ⟨b225, o225, cs225, hr225, hh225, hel225⟩ := Rd.el (HRp0.mono hS.mono) hu225
          obtain rfl := hr225
          refine HK_read 5 (v := .pointer (some ⟨b225, o225, none⟩)) rfl (by kernel_rfl) (fun c l s h => hQp c l s h) rfl (fun s' hR' K hK => ?_) rfl rfl hR ?_
          · refine hel225 s' rfl rfl Try.underlying22 tI3 ?_
            exact hK
          try dsimp only [putL, setL, evL, getL]
          refine HK_read 6 (v := .int .i64 u225) rfl (by kernel_rfl) (fun c l s h => hQp c l s h) rfl (fun s' hR' K hK => ?_) rfl rfl hR ?_
          · refine o_load' rfl Try.underlying3 rfl (has_gro hR' (hh225 0 _ rfl)) ?_
            exact hK
          try dsimp only [putL, setL, evL, getL]
          refine HK_read 7 (v := .int .i64 (IntKind.i64.wrap (u225 + 1))) rfl (by kernel_rfl) (fun c l s h => hQp c l s h) rfl (fun s' hR' K hK => ?_) rfl rfl hR ?_
          · refine o_bin rfl rfl rfl ?_
            exact hK
          try dsimp only [putL, setL, evL, getL]
          refine HK_read 8 (v := .slice A154 x154.length c154) rfl (by kernel_rfl) (fun c l s h => hQp c l s h) rfl (fun s' hR' K hK => ?_) rfl rfl hR ?_
          · refine o_move ?_
            exact hK
          try dsimp only [putL, setL, evL, getL]
          refine HK_read 9 (v := .int .i64 x155) rfl (by kernel_rfl) (fun c l s h => hQp c l s h) rfl (fun s' hR' K hK => ?_) rfl rfl hR ?_
          · refine o_move ?_
            exact hK
          try dsimp only [putL, setL, evL, getL]
          obtain ⟨u226, hu226, H⟩ := headE H
          obtain ⟨b226, o226, cs226, hr226, hh226, hel226⟩ := Rd.el O154.rd hu226
          obtain rfl := hr226
          refine HK_read 10 (v := .pointer (some ⟨b226, o226, none⟩)) rfl (by kernel_rfl) (fun c l s h => hQp c l s h) rfl (fun s' hR' K hK => ?_) rfl rfl hR ?_
          · refine hel226 s' rfl rfl Try.underlying22 tI3 ?_
            exact hK
          try dsimp only [putL, setL, evL, getL]
          refine HK_read 11 (v := .int .i64 u226) rfl (by kernel_rfl) (fun c l s h => hQp c l s h) rfl (fun s' hR' K hK => ?_) rfl rfl hR ?_
          · refine o_load' rfl Try.underlying3 rfl (has_gro hR' (hh226 0 _ rfl)) ?_
            exact hK
          try dsimp only [putL, setL, evL, getL]
          refine HK_read 12 (v := .int .i64 (IntKind.i64.wrap (u226 + 1))) rfl (by kernel_rfl) (fun c l s h => hQp c l s h) rfl (fun s' hR' K hK => ?_) rfl rfl hR ?_
          · refine o_bin rfl rfl rfl ?_
            exact hK
          try dsimp only [putL, setL, evL, getL]
          refine HK_read 13 (v := .int .i64 (min x221 (min (IntKind.i64.wrap (u225 + 1)) (IntKind.i64.wrap (u226 + 1))))) rfl (by kernel_rfl) (fun c l s h => hQp c l s h) rfl (fun s' hR' K hK => ?_) rfl rfl hR ?_
          · refine o_min3 rfl rfl rfl ?_
            exact hK
          try dsimp only [putL, setL, evL, getL]
          refine HK_one 14 (by kernel_rfl) rfl (fun _ => hR) rfl ?_
          refine o_lit' (K := (Kd.int .i64)) (cs := #[.int .i64 (min x221 (min (IntKind.i64.wrap (u225 + 1)) (IntKind.i64.wrap (u226 + 1))))]) [[.int .i64 (min x221 (min (IntKind.i64.wrap (u225 + 1)) (IntKind.i64.wrap (u226 + 1))))]] [min x221 (min (IntKind.i64.wrap (u225 + 1)) (IntKind.i64.wrap (u226 + 1)))] Try.underlying22 tI3 rfl (by decide) rfl rfl rfl rfl ⟨rfl, trivial⟩ ?_
          intro A227 s227 O227 N227 hc
          have P154_227 := O154.apart N227
          replace N227 := N227.of hS
          replace hR := hR.trans (Sub.chg hc)
          have hS' := hS.trans hc
          replace O154 := O154.sub hc
          replace hS := hS'
          clear hS' hc
          try dsimp only [putL, setL, evL, getL]
          obtain ⟨x228, hx228, H⟩ := headE H
          refine HK_one 15 (by kernel_rfl) rfl (fun _ => hR) rfl ?_
          refine o_append' (K := (Kd.int .i64)) (n := 17592186044416) (A := A154) (c := c154) (xs := x154) (ys := [min x221 (min (IntKind.i64.wrap (u225 + 1)) (IntKind.i64.wrap (u226 + 1)))]) (B := A227) (c2 := 1) rfl rfl Try.underlying22 tI3 rfl (by decide) (by decide) (by decide) O154 O227.rd hx228 ?_
          rintro _ s228 ⟨A228, c228, rfl, O228, hc, hA228⟩
          have N228 := NewA.step hA228 N154 hS
          have P227_228 := Apart.step (P154_227.symm) hA228 O227
          replace hR := hR.trans (hc.weak (fun _ _ => trivial) (fun _ h => h))
          have hS' := hS.app hc N154
          replace O227 := O227.chg hc (fun b hb => (P154_227.symm) b hb)
          replace hS := hS'
          clear hS' hc
          try dsimp only [putL, setL, evL, getL]
          refine HK_one 16 (by kernel_rfl) rfl (fun _ => hR) rfl ?_
          refine o_assign ?_
          try dsimp only [putL, setL, evL, getL]
          refine HK_done (fun _ => hR) (by kernel_rfl) ?_
          refine hK213 _ _ ?_
          refine HT_region ?_
          refine HL_cons rfl ?_
          refine o_bin rfl rfl rfl ?_
          try dsimp only [putL, setL, evL, getL]
          refine HL_cons rfl ?_
          refine o_move ?_
          try dsimp only [putL, setL, evL, getL]
          refine HL_nil ?_
          exact hK193 _ _ ⟨kf, Nat.lt_succ_self kf, x228, A228, c228, IntKind.i64.wrap (x155 + 1), H, rfl, hS, O228, N228⟩
      · replace H := iteF hb196 H
        refine HT_false (congrArg Value.bool hb196) ?_
        refine HT_exit ?_
        exact hK7 _ _ ⟨x154, A154, c154, H, rfl, hS, O154, N154⟩
  · rintro l' s229 ⟨x118, A118, c118, H, hl, hS, O118, N118⟩
    generalize getL l' 8 = j8, getL l' 9 = j9, getL l' 10 = j10, getL l' 18 = j18, getL l' 19 = j19, getL l' 20 = j20, getL l' 21 = j21, getL l' 22 = j22, getL l' 23 = j23, getL l' 24 = j24, getL l' 25 = j25, getL l' 26 = j26, getL l' 27 = j27, getL l' 28 = j28, getL l' 29 = j29, getL l' 30 = j30, getL l' 31 = j31, getL l' 32 = j32, getL l' 33 = j33, getL l' 34 = j34, getL l' 35 = j35, getL l' 36 = j36, getL l' 37 = j37, getL l' 38 = j38, getL l' 39 = j39, getL l' 40 = j40, getL l' 41 = j41, getL l' 42 = j42, getL l' 43 = j43, getL l' 44 = j44, getL l' 45 = j45, getL l' 46 = j46, getL l' 47 = j47, getL l' 48 = j48 at hl
    subst hl
    replace H := hG7 _ H
    try dsimp only at H
    refine hK5 _ _ ?_
    refine HT_seq_k ?_
    intro K230 hK230
    refine HT_region ?_
    refine HL_cons rfl ?_
    refine o_move ?_
    try dsimp only [putL, setL, evL, getL]
    refine HL_cons rfl ?_
    refine o_assign ?_
    try dsimp only [putL, setL, evL, getL]
    refine HL_nil ?_
    refine hK230 _ _ ?_
    refine HT_ret ?_
    obtain rfl := Option.some.inj (show some _ = some r from H)
    exact hQr _ _ [.slice A118 x118.length c118] ⟨rfl, trivial⟩ ⟨A118, c118, rfl, O118, N118, hS⟩
def impl_distances.l1 (p0 : List (Int)) (p1 : List (Int)) : Nat → (List (Int)) → Int → Option (List (Int))
  | 0, _, _ => none
  | kf + 1, x46, x47 => if (decide (x47 < (p0.length : Int))) = true then ((rd? p0 x47).bind fun u64 => (impl_nextRow.f x46 u64 p1).bind fun u65 => impl_distances.l1 p0 p1 kf u65 (IntKind.i64.wrap (x47 + 1))) else (some x46)
def impl_distances.f (p0 : List (Int)) (p1 : List (Int)) : Option (List (Int)) := (impl_firstRow.f (p1.length : Int)).bind fun u3 => (impl_distances.l1 p0 p1 ((((p0.length : Int)) - (0)).toNat + 2) u3 0).bind fun (o : (List (Int))) => match o with | x37 => (some x37)
def impl_distances.post (s : St) (r : (List (Int))) : Value → St → Prop := fun v s' => ∃ (A0 : Option Addr) (c0 : Nat), v = .slice A0 r.length c0 ∧ Own.is (Kd.int .i64) 3 s' A0 c0 r ∧ NewA s (eff A0 c0) ∧ Sub s s'
set_option maxRecDepth 100000 in
set_option maxHeartbeats 4000000 in
theorem impl_distances.ok (s : St) (A0p : Option Addr) (c0p : Nat) (p0 : List (Int)) (A1p : Option Addr) (c1p : Nat) (p1 : List (Int)) (HRp0 : Rd (Kd.int .i64) s A0p c0p p0) (HRp1 : Rd (Kd.int .i64) s A1p c1p p1) (r : (List (Int))) (H : impl_distances.f p0 p1 = some r) : GCall Try.prog 42 #[.slice A0p p0.length c0p, .slice A1p p1.length c1p] s (impl_distances.post s r) := by
  refine GCall_ofk [.tmp 4] [.slice A0p p0.length c0p, .slice A1p p1.length c1p, undef, undef, undef, undef, undef, undef, undef, undef, undef, undef, undef, undef, undef, undef, undef, undef, undef, undef, undef, undef, undef] Try.func42 rfl rfl rfl ?_
  intro w Q hQr hQn hQp
  have hS := Sub.refl s
  replace H := topE H
  unfold impl_distances.f at H
  refine HT_seq_k ?_
  intro K1 hK1
  refine HT_region ?_
  refine HL_cons rfl ?_
  refine o_assign ?_
  try dsimp only [putL, setL, evL, getL]
  refine HL_nil ?_
  refine hK1 _ _ ?_
  refine HT_seq_k ?_
  intro K2 hK2
  refine HT_region ?_
  refine HL_cons rfl ?_
  refine o_move ?_
  try dsimp only [putL, setL, evL, getL]
  refine HL_cons rfl ?_
  refine o_len rfl Try.underlying22 ?_
  try dsimp only [putL, setL, evL, getL]
  obtain ⟨u3, hu3, H⟩ := headE H
  refine HL_cons rfl ?_
  refine o_call (args := #[.int .i64 (p1.length : Int)]) Try.func47 rfl rfl rfl (impl_firstRow.ok s (p1.length : Int) _ hu3) ?_
  rintro _ s3 ⟨A4, c4, rfl, O4, N4, hc⟩
  replace N4 := N4.of hS
  have hS' := hS.trans hc
  replace hS := hS'
  clear hS' hc
  try dsimp only [putL, setL, evL, getL]
  refine HL_cons rfl ?_
  refine o_assign ?_
  try dsimp only [putL, setL, evL, getL]
  refine HL_nil ?_
  refine hK2 _ _ ?_
  refine HT_seq_k ?_
  intro K5 hK5
  refine HT_seq_k ?_
  intro K6 hK6
  refine HT_region ?_
  refine HL_cons rfl ?_
  refine o_move ?_
  try dsimp only [putL, setL, evL, getL]
  refine HL_cons rfl ?_
  refine o_len rfl Try.underlying22 ?_
  try dsimp only [putL, setL, evL, getL]
  refine HL_cons rfl ?_
  refine o_move ?_
  try dsimp only [putL, setL, evL, getL]
  refine HL_nil ?_
  refine hK6 _ _ ?_
  refine joinH H fun G7 hG7 H => ?_
  refine HT_toK (fun l' s' => ∃ (x37 : List (Int)) (A37 : Option Addr) (c37 : Nat), G7 x37 = some r ∧ l' = [.slice A0p p0.length c0p, .slice A1p p1.length c1p, undef, undef, .slice none 0 0, .slice A37 x37.length c37, undef, getL l' 7, .slice A1p p1.length c1p, .int .i64 (p1.length : Int), .slice A4 u3.length c4, .slice A0p p0.length c0p, .int .i64 (p0.length : Int), getL l' 13, getL l' 14, getL l' 15, getL l' 16, getL l' 17, getL l' 18, getL l' 19, getL l' 20, getL l' 21, undef] ∧ Sub s s' ∧ Own.is (Kd.int .i64) 3 s' A37 c37 x37 ∧ NewA s (eff A37 c37)) ?_ ?_
  · intro K7 hK7
    refine HT_block ?_
    refine HT_loopK (fun kf l' s' => ∃ (x46 : List (Int)) (A46 : Option Addr) (c46 : Nat) (x47 : Int), (impl_distances.l1 p0 p1 kf x46 x47).bind G7 = some r ∧ l' = [.slice A0p p0.length c0p, .slice A1p p1.length c1p, undef, undef, .slice none 0 0, .slice A46 x46.length c46, undef, getL l' 7, .slice A1p p1.length c1p, .int .i64 (p1.length : Int), .slice A4 u3.length c4, .slice A0p p0.length c0p, .int .i64 (p0.length : Int), .int .i64 x47, getL l' 14, getL l' 15, getL l' 16, getL l' 17, getL l' 18, getL l' 19, getL l' 20, getL l' 21, undef] ∧ Sub s s' ∧ Own.is (Kd.int .i64) 3 s' A46 c46 x46 ∧ NewA s (eff A46 c46)) ((((p0.length : Int)) - (0)).toNat + 2) ⟨u3, A4, c4, 0, H, rfl, hS, O4, N4⟩ ?_
    rintro kf l' s58 ⟨x46, A46, c46, x47, H, hl, hS, O46, N46⟩ K58 hK58
    generalize getL l' 7 = j7, getL l' 14 = j14, getL l' 15 = j15, getL l' 16 = j16, getL l' 17 = j17, getL l' 18 = j18, getL l' 19 = j19, getL l' 20 = j20, getL l' 21 = j21 at hl
    subst hl
    cases kf with
    | zero => simp [impl_distances.l1] at H
    | succ kf =>
      rw [impl_distances.l1] at H
      refine HT_seq_k ?_
      intro K59 hK59
      refine HT_region ?_
      refine HL_cons rfl ?_
      refine o_bin rfl rfl rfl ?_
      try dsimp only [putL, setL, evL, getL]
      refine HL_nil ?_
      refine hK59 _ _ ?_
      refine HT_seq_k ?_
      intro K60 hK60
      rcases Bool.eq_false_or_eq_true (decide (x47 < (p0.length : Int))) with hb61 | hb61
      · replace H := iteT hb61 H
        refine HT_true (congrArg Value.bool hb61) ?_
        refine HT_skip ?_
        refine hK60 _ _ ?_
        refine HT_seq_k ?_
        intro K62 hK62
        refine HT_block ?_
        refine HT_seq_k ?_
        intro K63 hK63
        refine HT_region ?_
        obtain ⟨u64, hu64, H⟩ := headE H
        refine HL_cons rfl ?_
        refine o_el (K := (Kd.int .i64)) (xs := p0) rfl rfl Try.underlying22 tI3 (HRp0.mono hS.mono) hu64 ?_
        intro b64 o64 cs64 hr64 hh64
        obtain rfl := hr64
        try dsimp only [putL, setL, evL, getL]
        refine HL_cons rfl ?_
        refine o_load' rfl Try.underlying3 rfl (hh64 0 _ rfl) ?_
        try dsimp only [putL, setL, evL, getL]
        refine HL_cons rfl ?_
        refine o_assign ?_
        try dsimp only [putL, setL, evL, getL]
        refine HL_nil ?_
        refine hK63 _ _ ?_
        refine HT_region ?_
        refine HL_cons rfl ?_
        refine o_move ?_
        try dsimp only [putL, setL, evL, getL]
        refine HL_cons rfl ?_
        refine o_move ?_
        try dsimp only [putL, setL, evL, getL]
        refine HL_cons rfl ?_
        refine o_move ?_
        try dsimp only [putL, setL, evL, getL]
        obtain ⟨u65, hu65, H⟩ := headE H
        refine HL_cons rfl ?_
        refine o_call (args := #[.slice A46 x46.length c46, .int .i64 u64, .slice A1p p1.length c1p]) Try.func48 rfl rfl rfl (impl_nextRow.ok s58 A46 c46 x46 u64 A1p c1p p1 O46.rd (HRp1.mono hS.mono) _ hu65) ?_
        rintro _ s65 ⟨A66, c66, rfl, O66, N66, hc⟩
        have P46_66 := O46.apart N66
        replace N66 := N66.of hS
        have hS' := hS.trans hc
        replace O46 := O46.sub hc
        replace hS := hS'
        clear hS' hc
        try dsimp only [putL, setL, evL, getL]
        refine HL_cons rfl ?_
        refine o_assign ?_
        try dsimp only [putL, setL, evL, getL]
        refine HL_nil ?_
        refine hK62 _ _ ?_
        refine HT_region ?_
        refine HL_cons rfl ?_
        refine o_bin rfl rfl rfl ?_
        try dsimp only [putL, setL, evL, getL]
        refine HL_cons rfl ?_
        refine o_move ?_
        try dsimp only [putL, setL, evL, getL]
        refine HL_nil ?_
        exact hK58 _ _ ⟨kf, Nat.lt_succ_self kf, u65, A66, c66, IntKind.i64.wrap (x47 + 1), H, rfl, hS, O66, N66⟩
      · replace H := iteF hb61 H
        refine HT_false (congrArg Value.bool hb61) ?_
        refine HT_exit ?_
        exact hK7 _ _ ⟨x46, A46, c46, H, rfl, hS, O46, N46⟩
  · rintro l' s67 ⟨x37, A37, c37, H, hl, hS, O37, N37⟩
    generalize getL l' 7 = j7, getL l' 13 = j13, getL l' 14 = j14, getL l' 15 = j15, getL l' 16 = j16, getL l' 17 = j17, getL l' 18 = j18, getL l' 19 = j19, getL l' 20 = j20, getL l' 21 = j21 at hl
    subst hl
    replace H := hG7 _ H
    try dsimp only at H
    refine hK5 _ _ ?_
    refine HT_seq_k ?_
    intro K68 hK68
    refine HT_region ?_
    refine HL_cons rfl ?_
    refine o_move ?_
    try dsimp only [putL, setL, evL, getL]
    refine HL_cons rfl ?_
    refine o_assign ?_
    try dsimp only [putL, setL, evL, getL]
    refine HL_nil ?_
    refine hK68 _ _ ?_
    refine HT_ret ?_
    obtain rfl := Option.some.inj (show some _ = some r from H)
    exact hQr _ _ [.slice A37 x37.length c37] ⟨rfl, trivial⟩ ⟨A37, c37, rfl, O37, N37, hS⟩
def impl_DistanceOf.f (p0 : List (Int)) (p1 : List (Int)) : Option (Int × Bool) := (impl_areShort.f [p0, p1]).bind fun u5 => if (!u5) = true then (some (0, false)) else ((impl_distances.f p0 p1).bind fun u9 => (rd? u9 (p1.length : Int)).bind fun u11 => some (u11, true))
def impl_DistanceOf.post (s : St) (r : Int × Bool) : Value → St → Prop := fun v s' => v = .tuple #[.int .i64 r.1, .bool r.2] ∧ Sub s s'
set_option maxRecDepth 100000 in
set_option maxHeartbeats 4000000 in
theorem impl_DistanceOf.ok (s : St) (A0p : Option Addr) (c0p : Nat) (p0 : List (Int)) (A1p : Option Addr) (c1p : Nat) (p1 : List (Int)) (HRp0 : Rd (Kd.int .i64) s A0p c0p p0) (HRp1 : Rd (Kd.int .i64) s A1p c1p p1) (r : Int × Bool) (H : impl_DistanceOf.f p0 p1 = some r) : GCall Try.prog 16 #[.slice A0p p0.length c0p, .slice A1p p1.length c1p] s (impl_DistanceOf.post s r) := by
  refine GCall_ofk [.tmp 4, .tmp 5] [.slice A0p p0.length c0p, .slice A1p p1.length c1p, undef, undef, undef, undef, undef, undef, undef, undef, undef, undef, undef, undef, undef, undef, undef, undef] Try.func16 rfl rfl rfl ?_
  intro w Q hQr hQn hQp
  have hS := Sub.refl s
  replace H := topE H
  unfold impl_DistanceOf.f at H
  refine HT_seq_k ?_
  intro K1 hK1
  refine HT_region ?_
  refine HL_cons rfl ?_
  refine o_assign ?_
  try dsimp only [putL, setL, evL, getL]
  refine HL_cons rfl ?_
  refine o_assign ?_
  try dsimp only [putL, setL, evL, getL]
  refine HL_nil ?_
  refine hK1 _ _ ?_
  refine HT_seq_k ?_
  intro K2 hK2
  refine HT_seq_k ?_
  intro K3 hK3
  refine HT_region ?_
  refine HL_cons rfl ?_
  refine o_move ?_
  try dsimp only [putL, setL, evL, getL]
  refine HL_cons rfl ?_
  refine o_move ?_
  try dsimp only [putL, setL, evL, getL]
  refine HL_cons rfl ?_
  refine o_lit' (K := (Kd.sl (Kd.int .i64))) (cs := #[.slice A0p p0.length c0p, .slice A1p p1.length c1p]) [[.slice A0p p0.length c0p], [.slice A1p p1.length c1p]] [p0, p1] Try.underlying63 tI22 rfl (by decide) rfl rfl rfl rfl ⟨⟨A0p, c0p, rfl, (HRp0.mono hS.mono)⟩, ⟨A1p, c1p, rfl, (HRp1.mono hS.mono)⟩, trivial⟩ ?_
  intro A4 s4 O4 N4 hc
  replace N4 := N4.of hS
  have hS' := hS.trans hc
  replace hS := hS'
  clear hS' hc
  try dsimp only [putL, setL, evL, getL]
  obtain ⟨u5, hu5, H⟩ := headE H
  refine HL_cons rfl ?_
  refine o_call (args := #[.slice A4 [p0, p1].length 2]) Try.func41 rfl rfl rfl (impl_areShort.ok s4 A4 2 [p0, p1] O4.rd _ hu5) ?_
  rintro _ s5 ⟨rfl, hc⟩
  have hS' := hS.trans hc
  replace O4 := O4.sub hc
  replace hS := hS'
  clear hS' hc
  try dsimp only [putL, setL, evL, getL]
  refine HL_cons rfl ?_
  refine o_not rfl ?_
  try dsimp only [putL, setL, evL, getL]
  refine HL_nil ?_
  refine hK3 _ _ ?_
  rcases Bool.eq_false_or_eq_true (!u5) with hb6 | hb6
  · replace H := iteT hb6 H
    refine HT_true (congrArg Value.bool hb6) ?_
    refine HT_seq_k ?_
    intro K7 hK7
    refine HT_region ?_
    refine HL_cons rfl ?_
    refine o_assign ?_
    try dsimp only [putL, setL, evL, getL]
    refine HL_cons rfl ?_
    refine o_assign ?_
    try dsimp only [putL, setL, evL, getL]
    refine HL_nil ?_
    refine hK7 _ _ ?_
    refine HT_ret ?_
    obtain rfl := Option.some.inj (show some _ = some r from H)
    exact hQr _ _ [.int .i64 0, .bool false] ⟨rfl, rfl, trivial⟩ ⟨rfl, hS⟩
  · replace H := iteF hb6 H
    refine HT_false (congrArg Value.bool hb6) ?_
    refine HT_skip ?_
    refine hK2 _ _ ?_
    refine HT_seq_k ?_
    intro K8 hK8
    refine HT_region ?_
    refine HL_cons rfl ?_
    refine o_move ?_
    try dsimp only [putL, setL, evL, getL]
    refine HL_cons rfl ?_
    refine o_move ?_
    try dsimp only [putL, setL, evL, getL]
    obtain ⟨u9, hu9, H⟩ := headE H
    refine HL_cons rfl ?_
    refine o_call (args := #[.slice A0p p0.length c0p, .slice A1p p1.length c1p]) Try.func42 rfl rfl rfl (impl_distances.ok s5 A0p c0p p0 A1p c1p p1 (HRp0.mono hS.mono) (HRp1.mono hS.mono) _ hu9) ?_
    rintro _ s9 ⟨A10, c10, rfl, O10, N10, hc⟩
    have P4_10 := O4.apart N10
    replace N10 := N10.of hS
    have hS' := hS.trans hc
    replace O4 := O4.sub hc
    replace hS := hS'
    clear hS' hc
    try dsimp only [putL, setL, evL, getL]
    refine HL_cons rfl ?_
    refine o_move ?_
    try dsimp only [putL, setL, evL, getL]
    refine HL_cons rfl ?_
    refine o_len rfl Try.underlying22 ?_
    try dsimp only [putL, setL, evL, getL]
    obtain ⟨u11, hu11, H⟩ := headE H
    refine HL_cons rfl ?_
    refine o_el (K := (Kd.int .i64)) (xs := u9) rfl rfl Try.underlying22 tI3 O10.rd hu11 ?_
    intro b11 o11 cs11 hr11 hh11
    obtain rfl := hr11
    try dsimp only [putL, setL, evL, getL]
    refine HL_cons rfl ?_
    refine o_load' rfl Try.underlying3 rfl (hh11 0 _ rfl) ?_
    try dsimp only [putL, setL, evL, getL]
    refine HL_cons rfl ?_
    refine o_assign ?_
    try dsimp only [putL, setL, evL, getL]
    refine HL_cons rfl ?_
    refine o_assign ?_
    try dsimp only [putL, setL, evL, getL]
    refine HL_nil ?_
    refine hK8 _ _ ?_
    refine HT_ret ?_
    obtain rfl := Option.some.inj (show some _ = some r from H)
    exact hQr _ _ [.int .i64 u11, .bool true] ⟨rfl, rfl, trivial⟩ ⟨rfl, hS⟩
def laws_eqIntS.l1 (p0 : List (Int)) (p1 : List (Int)) : Nat → Int → Option (Lo Unit Bool)
  | 0, _ => none
  | kf + 1, x48 => if (decide (x48 < (p0.length : Int))) = true then ((rd? p0 x48).bind fun u65 => (rd? p1 x48).bind fun u66 => if (u65 != u66) = true then ((some false).bind fun z => some (Lo.ret z)) else (laws_eqIntS.l1 p0 p1 kf (IntKind.i64.wrap (x48 + 1)))) else (some (Lo.go ()))
def laws_eqIntS.f (p0 : List (Int)) (p1 : List (Int)) : Option Bool := if ((p0.length : Int) != (p1.length : Int)) = true then (some false) else ((laws_eqIntS.l1 p0 p1 ((((p0.length : Int)) - (0)).toNat + 2) 0).bind fun (o : Lo Unit Bool) => match o with | .go () => (some true) | .ret z => some z)
def laws_eqIntS.post (s : St) (r : Bool) : Value → St → Prop := fun v s' => v = .bool r ∧ Sub s s'
set_option maxRecDepth 100000 in
set_option maxHeartbeats 4000000 in
theorem laws_eqIntS.ok (s : St) (A0p : Option Addr) (c0p : Nat) (p0 : List (Int)) (A1p : Option Addr) (c1p : Nat) (p1 : List (Int)) (HRp0 : Rd (Kd.int .i64) s A0p c0p p0) (HRp1 : Rd (Kd.int .i64) s A1p c1p p1) (r : Bool) (H : laws_eqIntS.f p0 p1 = some r) : GCall Try.prog 17 #[.slice A0p p0.length c0p, .slice A1p p1.length c1p] s (laws_eqIntS.post s r) := by
  refine GCall_ofk [.tmp 4] [.slice A0p p0.length c0p, .slice A1p p1.length c1p, undef, undef, undef, undef, undef, undef, undef, undef, undef, undef, undef, undef, undef, undef, undef, undef, undef, undef, undef, undef, undef, undef, undef, undef] Try.func17 rfl rfl rfl ?_
  intro w Q hQr hQn hQp
  have hS := Sub.refl s
  replace H := topE H
  unfold laws_eqIntS.f at H
  refine HT_seq_k ?_
  intro K1 hK1
  refine HT_region ?_
  refine HL_cons rfl ?_
  refine o_assign ?_
  try dsimp only [putL, setL, evL, getL]
  refine HL_nil ?_
  refine hK1 _ _ ?_
  refine HT_seq_k ?_
  intro K2 hK2
  refine HT_seq_k ?_
  intro K3 hK3
  refine HT_region ?_
  refine HL_cons rfl ?_
  refine o_move ?_
  try dsimp only [putL, setL, evL, getL]
  refine HL_cons rfl ?_
  refine o_len rfl Try.underlying22 ?_
  try dsimp only [putL, setL, evL, getL]
  refine HL_cons rfl ?_
  refine o_move ?_
  try dsimp only [putL, setL, evL, getL]
  refine HL_cons rfl ?_
  refine o_len rfl Try.underlying22 ?_
  try dsimp only [putL, setL, evL, getL]
  refine HL_cons rfl ?_
  refine o_bin rfl rfl rfl ?_
  try dsimp only [putL, setL, evL, getL]
  refine HL_nil ?_
  refine hK3 _ _ ?_
  rcases Bool.eq_false_or_eq_true ((p0.length : Int) != (p1.length : Int)) with hb4 | hb4
  · replace H := iteT hb4 H
    refine HT_true (congrArg Value.bool hb4) ?_
    refine HT_seq_k ?_
    intro K5 hK5
    refine HT_region ?_
    refine HL_cons rfl ?_
    refine o_assign ?_
    try dsimp only [putL, setL, evL, getL]
    refine HL_nil ?_
    refine hK5 _ _ ?_
    refine HT_ret ?_
    obtain rfl := Option.some.inj (show some _ = some r from H)
    exact hQr _ _ [.bool false] ⟨rfl, trivial⟩ ⟨rfl, hS⟩
  · replace H := iteF hb4 H
    refine HT_false (congrArg Value.bool hb4) ?_
    refine HT_skip ?_
    refine hK2 _ _ ?_
    refine HT_seq_k ?_
    intro K6 hK6
    refine HT_seq_k ?_
    intro K7 hK7
    refine HT_region ?_
    refine HL_cons rfl ?_
    refine o_assign ?_
    try dsimp only [putL, setL, evL, getL]
    refine HL_nil ?_
    refine hK7 _ _ ?_
    refine joinH H fun G8 hG8 H => ?_
    refine HT_toK (fun l' s' => G8 (.go ()) = some r ∧ l' = [.slice A0p p0.length c0p, .slice A1p p1.length c1p, undef, undef, getL l' 4, getL l' 5, .slice A0p p0.length c0p, .int .i64 (p0.length : Int), .slice A1p p1.length c1p, .int .i64 (p1.length : Int), .bool ((p0.length : Int) != (p1.length : Int)), getL l' 11, getL l' 12, getL l' 13, getL l' 14, getL l' 15, getL l' 16, getL l' 17, getL l' 18, getL l' 19, getL l' 20, getL l' 21, getL l' 22, getL l' 23, getL l' 24, getL l' 25] ∧ Sub s s') ?_ ?_
    · intro K8 hK8
      refine HT_block ?_
      refine HT_loopK (fun kf l' s' => ∃ (x48 : Int), (laws_eqIntS.l1 p0 p1 kf x48).bind G8 = some r ∧ l' = [.slice A0p p0.length c0p, .slice A1p p1.length c1p, undef, undef, getL l' 4, .int .i64 x48, .slice A0p p0.length c0p, .int .i64 (p0.length : Int), .slice A1p p1.length c1p, .int .i64 (p1.length : Int), .bool ((p0.length : Int) != (p1.length : Int)), getL l' 11, getL l' 12, getL l' 13, getL l' 14, getL l' 15, getL l' 16, getL l' 17, getL l' 18, getL l' 19, getL l' 20, getL l' 21, getL l' 22, getL l' 23, getL l' 24, getL l' 25] ∧ Sub s s') ((((p0.length : Int)) - (0)).toNat + 2) ⟨0, H, rfl, hS⟩ ?_
      rintro kf l' s59 ⟨x48, H, hl, hS⟩ K59 hK59
      generalize getL l' 4 = j4, getL l' 11 = j11, getL l' 12 = j12, getL l' 13 = j13, getL l' 14 = j14, getL l' 15 = j15, getL l' 16 = j16, getL l' 17 = j17, getL l' 18 = j18, getL l' 19 = j19, getL l' 20 = j20, getL l' 21 = j21, getL l' 22 = j22, getL l' 23 = j23, getL l' 24 = j24, getL l' 25 = j25 at hl
      subst hl
      cases kf with
      | zero => simp [laws_eqIntS.l1] at H
      | succ kf =>
        rw [laws_eqIntS.l1] at H
        refine HT_seq_k ?_
        intro K60 hK60
        refine HT_seq_k ?_
        intro K61 hK61
        refine HT_region ?_
        refine HL_cons rfl ?_
        refine o_move ?_
        try dsimp only [putL, setL, evL, getL]
        refine HL_cons rfl ?_
        refine o_move ?_
        try dsimp only [putL, setL, evL, getL]
        refine HL_cons rfl ?_
        refine o_len rfl Try.underlying22 ?_
        try dsimp only [putL, setL, evL, getL]
        refine HL_cons rfl ?_
        refine o_bin rfl rfl rfl ?_
        try dsimp only [putL, setL, evL, getL]
        refine HL_nil ?_
        refine hK61 _ _ ?_
        rcases Bool.eq_false_or_eq_true (decide (x48 < (p0.length : Int))) with hb62 | hb62
        · replace H := iteT hb62 H
          refine HT_true (congrArg Value.bool hb62) ?_
          refine HT_skip ?_
          refine hK60 _ _ ?_
          refine HT_seq_k ?_
          intro K63 hK63
          refine HT_block ?_
          refine HT_seq_k ?_
          intro K64 hK64
          refine HK_draw (fun s' => Gro s59 s') 10 hMix ?_
          have hR := Gro.refl s59
          refine HK_read 0 (v := .slice A0p p0.length c0p) rfl (by kernel_rfl) (fun c l s h => hQp c l s h) rfl (fun s' hR' K hK => ?_) rfl rfl hR ?_
          · refine o_move ?_
            exact hK
          try dsimp only [putL, setL, evL, getL]
          refine HK_read 1 (v := .int .i64 x48) rfl (by kernel_rfl) (fun c l s h => hQp c l s h) rfl (fun s' hR' K hK => ?_) rfl rfl hR ?_
          · refine o_move ?_
            exact hK
          try dsimp only [putL, setL, evL, getL]
          obtain ⟨u65, hu65, H⟩ := headE H
          obtain ⟨b65, o65, cs65, hr65, hh65, hel65⟩ := Rd.el (HRp0.mono hS.mono) hu65
          obtain rfl := hr65
          refine HK_read 2 (v := .pointer (some ⟨b65, o65, none⟩)) rfl (by kernel_rfl) (fun c l s h => hQp c l s h) rfl (fun s' hR' K hK => ?_) rfl rfl hR ?_
          · refine hel65 s' rfl rfl Try.underlying22 tI3 ?_
            exact hK
          try dsimp only [putL, setL, evL, getL]
          refine HK_read 3 (v := .int .i64 u65) rfl (by kernel_rfl) (fun c l s h => hQp c l s h) rfl (fun s' hR' K hK => ?_) rfl rfl hR ?_
          · refine o_load' rfl Try.underlying3 rfl (has_gro hR' (hh65 0 _ rfl)) ?_
            exact hK
          try dsimp only [putL, setL, evL, getL]
          refine HK_read 4 (v := .slice A1p p1.length c1p) rfl (by kernel_rfl) (fun c l s h => hQp c l s h) rfl (fun s' hR' K hK => ?_) rfl rfl hR ?_
          · refine o_move ?_
            exact hK
          try dsimp only [putL, setL, evL, getL]
          refine HK_read 5 (v := .int .i64 x48) rfl (by kernel_rfl) (fun c l s h => hQp c l s h) rfl (fun s' hR' K hK => ?_) rfl rfl hR ?_
          · refine o_move ?_
            exact hK
          try dsimp only [putL, setL, evL, getL]
          obtain ⟨u66, hu66, H⟩ := headE H
          obtain ⟨b66, o66, cs66, hr66, hh66, hel66⟩ := Rd.el (HRp1.mono hS.mono) hu66
          obtain rfl := hr66
          refine HK_read 6 (v := .pointer (some ⟨b66, o66, none⟩)) rfl (by kernel_rfl) (fun c l s h => hQp c l s h) rfl (fun s' hR' K hK => ?_) rfl rfl hR ?_
          · refine hel66 s' rfl rfl Try.underlying22 tI3 ?_
            exact hK
          try dsimp only [putL, setL, evL, getL]
          refine HK_read 7 (v := .int .i64 u66) rfl (by kernel_rfl) (fun c l s h => hQp c l s h) rfl (fun s' hR' K hK => ?_) rfl rfl hR ?_
          · refine o_load' rfl Try.underlying3 rfl (has_gro hR' (hh66 0 _ rfl)) ?_
            exact hK
          try dsimp only [putL, setL, evL, getL]
          refine HK_read 8 (v := .bool (u65 != u66)) rfl (by kernel_rfl) (fun c l s h => hQp c l s h) rfl (fun s' hR' K hK => ?_) rfl rfl hR ?_
          · refine o_bin rfl rfl rfl ?_
            exact hK
          try dsimp only [putL, setL, evL, getL]
          refine HK_done (fun _ => hR) (by kernel_rfl) ?_
          refine hK64 _ _ ?_
          rcases Bool.eq_false_or_eq_true (u65 != u66) with hb67 | hb67
          · replace H := iteT hb67 H
            refine HT_true (congrArg Value.bool hb67) ?_
            refine HT_seq_k ?_
            intro K68 hK68
            refine HT_region ?_
            refine HL_cons rfl ?_
            refine o_assign ?_
            try dsimp only [putL, setL, evL, getL]
            refine HL_nil ?_
            refine hK68 _ _ ?_
            refine HT_ret ?_
            replace H := escH (fun z hz => hG8 _ hz) H
            obtain rfl := Option.some.inj (show some _ = some r from H)
            exact hQr _ _ [.bool false] ⟨rfl, trivial⟩ ⟨rfl, hS⟩
          · replace H := iteF hb67 H
            refine HT_false (congrArg Value.bool hb67) ?_
            refine HT_skip ?_
            refine hK63 _ _ ?_
            refine HT_region ?_
            refine HL_cons rfl ?_
            refine o_move ?_
            try dsimp only [putL, setL, evL, getL]
            refine HL_cons rfl ?_
            refine o_bin rfl rfl rfl ?_
            try dsimp only [putL, setL, evL, getL]
            refine HL_cons rfl ?_
            refine o_assign ?_
            try dsimp only [putL, setL, evL, getL]
            refine HL_nil ?_
            exact hK59 _ _ ⟨kf, Nat.lt_succ_self kf, IntKind.i64.wrap (x48 + 1), H, rfl, hS⟩
        · replace H := iteF hb62 H
          refine HT_false (congrArg Value.bool hb62) ?_
          refine HT_exit ?_
          exact hK8 _ _ ⟨H, rfl, hS⟩
    · rintro l' s69 ⟨H, hl, hS⟩
      generalize getL l' 4 = j4, getL l' 5 = j5, getL l' 11 = j11, getL l' 12 = j12, getL l' 13 = j13, getL l' 14 = j14, getL l' 15 = j15, getL l' 16 = j16, getL l' 17 = j17, getL l' 18 = j18, getL l' 19 = j19, getL l' 20 = j20, getL l' 21 = j21, getL l' 22 = j22, getL l' 23 = j23, getL l' 24 = j24, getL l' 25 = j25 at hl
      subst hl
      replace H := hG8 _ H
      try dsimp only at H
      refine hK6 _ _ ?_
      refine HT_seq_k ?_
      intro K70 hK70
      refine HT_region ?_
      refine HL_cons rfl ?_
      refine o_assign ?_
      try dsimp only [putL, setL, evL, getL]
      refine HL_nil ?_
      refine hK70 _ _ ?_
      refine HT_ret ?_
      obtain rfl := Option.some.inj (show some _ = some r from H)
      exact hQr _ _ [.bool true] ⟨rfl, trivial⟩ ⟨rfl, hS⟩
def laws_FnExactDistanceOf.f (p0 : List (Int)) (p1 : List (Int)) : Option Bool := if (decide ((p0.length : Int) > 1048576)) = true then (some true) else (if (decide ((p1.length : Int) > 1048576)) = true then (some true) else ((laws_toIntS.f p0).bind fun u11 => (laws_toIntS.f p1).bind fun u13 => (spec_DistanceOf.f u11 u13).bind fun u15 => (laws_toIntS.f p0).bind fun u17 => (laws_toIntS.f p1).bind fun u20 => (impl_DistanceOf.f u17 u20).bind fun u23 => (if (u23.1 != u15.1) = true then (some true) else (some (u23.2 != u15.2))).bind fun (o : Bool) => match o with | x35 => (if x35 = true then (some false) else ((laws_toIntS.f p0).bind fun u42 => (laws_eqIntS.f u17 u42).bind fun u44 => if (!u44) = true then (some false) else ((laws_toIntS.f p1).bind fun u49 => (laws_eqIntS.f u20 u49).bind fun u51 => if (!u51) = true then (some false) else (some true))))))
def laws_FnExactDistanceOf.post (s : St) (r : Bool) : Value → St → Prop := fun v s' => v = .bool r ∧ Sub s s'
set_option maxRecDepth 100000 in
set_option maxHeartbeats 4000000 in
theorem laws_FnExactDistanceOf.ok (s : St) (A0p : Option Addr) (c0p : Nat) (p0 : List (Int)) (A1p : Option Addr) (c1p : Nat) (p1 : List (Int)) (HRp0 : Rd (Kd.int .i64) s A0p c0p p0) (HRp1 : Rd (Kd.int .i64) s A1p c1p p1) (r : Bool) (H : laws_FnExactDistanceOf.f p0 p1 = some r) : GCall Try.prog 4 #[.slice A0p p0.length c0p, .slice A1p p1.length c1p] s (laws_FnExactDistanceOf.post s r) := by
  refine GCall_ofk [.tmp 4] [.slice A0p p0.length c0p, .slice A1p p1.length c1p, undef, undef, undef, undef, undef, undef, undef, undef, undef, undef, undef, undef, undef, undef, undef, undef, undef, undef, undef, undef, undef, undef, undef, undef, undef, undef, undef, undef, undef, undef, undef, undef, undef, undef, undef, undef, undef, undef, undef, undef, undef, undef, undef, undef, undef, undef, undef, undef, undef, undef, undef] Try.func4 rfl rfl rfl ?_
  intro w Q hQr hQn hQp
  have hS := Sub.refl s
  replace H := topE H
  unfold laws_FnExactDistanceOf.f at H
  refine HT_seq_k ?_
  intro K1 hK1
  refine HT_region ?_
  refine HL_cons rfl ?_
  refine o_assign ?_
  try dsimp only [putL, setL, evL, getL]
  refine HL_nil ?_
  refine hK1 _ _ ?_
  refine HT_seq_k ?_
  intro K2 hK2
  refine HT_seq_k ?_
  intro K3 hK3
  refine HT_region ?_
  refine HL_cons rfl ?_
  refine o_move ?_
  try dsimp only [putL, setL, evL, getL]
  refine HL_cons rfl ?_
  refine o_len rfl Try.underlying22 ?_
  try dsimp only [putL, setL, evL, getL]
  refine HL_cons rfl ?_
  refine o_bin rfl rfl rfl ?_
  try dsimp only [putL, setL, evL, getL]
  refine HL_nil ?_
  refine hK3 _ _ ?_
  rcases Bool.eq_false_or_eq_true (decide ((p0.length : Int) > 1048576)) with hb4 | hb4
  · replace H := iteT hb4 H
    refine HT_true (congrArg Value.bool hb4) ?_
    refine HT_seq_k ?_
    intro K5 hK5
    refine HT_region ?_
    refine HL_cons rfl ?_
    refine o_assign ?_
    try dsimp only [putL, setL, evL, getL]
    refine HL_nil ?_
    refine hK5 _ _ ?_
    refine HT_ret ?_
    obtain rfl := Option.some.inj (show some _ = some r from H)
    exact hQr _ _ [.bool true] ⟨rfl, trivial⟩ ⟨rfl, hS⟩
  · replace H := iteF hb4 H
    refine HT_false (congrArg Value.bool hb4) ?_
    refine HT_skip ?_
    refine hK2 _ _ ?_
    refine HT_seq_k ?_
    intro K6 hK6
    refine HT_seq_k ?_
    intro K7 hK7
    refine HT_region ?_
    refine HL_cons rfl ?_
    refine o_move ?_
    try dsimp only [putL, setL, evL, getL]
    refine HL_cons rfl ?_
    refine o_len rfl Try.underlying22 ?_
    try dsimp only [putL, setL, evL, getL]
    refine HL_cons rfl ?_
    refine o_bin rfl rfl rfl ?_
    try dsimp only [putL, setL, evL, getL]
    refine HL_nil ?_
    refine hK7 _ _ ?_
    rcases Bool.eq_false_or_eq_true (decide ((p1.length : Int) > 1048576)) with hb8 | hb8
    · replace H := iteT hb8 H
      refine HT_true (congrArg Value.bool hb8) ?_
      refine HT_seq_k ?_
      intro K9 hK9
      refine HT_region ?_
      refine HL_cons rfl ?_
      refine o_assign ?_
      try dsimp only [putL, setL, evL, getL]
      refine HL_nil ?_
      refine hK9 _ _ ?_
      refine HT_ret ?_
      obtain rfl := Option.some.inj (show some _ = some r from H)
      exact hQr _ _ [.bool true] ⟨rfl, trivial⟩ ⟨rfl, hS⟩
    · replace H := iteF hb8 H
      refine HT_false (congrArg Value.bool hb8) ?_
      refine HT_skip ?_
      refine hK6 _ _ ?_
      refine HT_seq_k ?_
      intro K10 hK10
      refine HT_region ?_
      refine HL_cons rfl ?_
      refine o_move ?_
      try dsimp only [putL, setL, evL, getL]
      obtain ⟨u11, hu11, H⟩ := headE H
      refine HL_cons rfl ?_
      refine o_call (args := #[.slice A0p p0.length c0p]) Try.func15 rfl rfl rfl (laws_toIntS.ok s A0p c0p p0 (HRp0.mono hS.mono) _ hu11) ?_
      rintro _ s11 ⟨A12, c12, rfl, O12, N12, hc⟩
      replace N12 := N12.of hS
      have hS' := hS.trans hc
      replace hS := hS'
      clear hS' hc
      try dsimp only [putL, setL, evL, getL]
      refine HL_cons rfl ?_
      refine o_move ?_
      try dsimp only [putL, setL, evL, getL]
      obtain ⟨u13, hu13, H⟩ := headE H
      refine HL_cons rfl ?_
      refine o_call (args := #[.slice A1p p1.length c1p]) Try.func15 rfl rfl rfl (laws_toIntS.ok s11 A1p c1p p1 (HRp1.mono hS.mono) _ hu13) ?_
      rintro _ s13 ⟨A14, c14, rfl, O14, N14, hc⟩
      have P12_14 := O12.apart N14
      replace N14 := N14.of hS
      have hS' := hS.trans hc
      replace O12 := O12.sub hc
      replace hS := hS'
      clear hS' hc
      try dsimp only [putL, setL, evL, getL]
      obtain ⟨u15, hu15, H⟩ := headE H
      refine HL_cons rfl ?_
      refine o_call (args := #[.slice A12 u11.length c12, .slice A14 u13.length c14]) Try.func14 rfl rfl rfl (spec_DistanceOf.ok s13 A12 c12 u11 A14 c14 u13 O12.rd O14.rd _ hu15) ?_
      rintro _ s15 ⟨rfl, hc⟩
      have hS' := hS.trans hc
      replace O12 := O12.sub hc
      replace O14 := O14.sub hc
      replace hS := hS'
      clear hS' hc
      try dsimp only [putL, setL, evL, getL]
      refine HL_cons rfl ?_
      refine o_move ?_
      try dsimp only [putL, setL, evL, getL]
      refine HL_cons rfl ?_
      refine o_extract rfl rfl ?_
      try dsimp only [putL, setL, evL, getL]
      refine HL_cons rfl ?_
      refine o_extract rfl rfl ?_
      try dsimp only [putL, setL, evL, getL]
      refine HL_cons rfl ?_
      refine o_assign ?_
      try dsimp only [putL, setL, evL, getL]
      refine HL_cons rfl ?_
      refine o_assign ?_
      try dsimp only [putL, setL, evL, getL]
      refine HL_nil ?_
      refine hK10 _ _ ?_
      refine HT_seq_k ?_
      intro K16 hK16
      refine HT_region ?_
      refine HL_cons rfl ?_
      refine o_move ?_
      try dsimp only [putL, setL, evL, getL]
      obtain ⟨u17, hu17, H⟩ := headE H
      refine HL_cons rfl ?_
      refine o_call (args := #[.slice A0p p0.length c0p]) Try.func15 rfl rfl rfl (laws_toIntS.ok s15 A0p c0p p0 (HRp0.mono hS.mono) _ hu17) ?_
      rintro _ s17 ⟨A18, c18, rfl, O18, N18, hc⟩
      have P12_18 := O12.apart N18
      have P14_18 := O14.apart N18
      replace N18 := N18.of hS
      have hS' := hS.trans hc
      replace O12 := O12.sub hc
      replace O14 := O14.sub hc
      replace hS := hS'
      clear hS' hc
      try dsimp only [putL, setL, evL, getL]
      refine HL_cons rfl ?_
      refine o_assign ?_
      try dsimp only [putL, setL, evL, getL]
      refine HL_nil ?_
      refine hK16 _ _ ?_
      refine HT_seq_k ?_
      intro K19 hK19
      refine HT_region ?_
      refine HL_cons rfl ?_
      refine o_move ?_
      try dsimp only [putL, setL, evL, getL]
      obtain ⟨u20, hu20, H⟩ := headE H
      refine HL_cons rfl ?_
      refine o_call (args := #[.slice A1p p1.length c1p]) Try.func15 rfl rfl rfl (laws_toIntS.ok s17 A1p c1p p1 (HRp1.mono hS.mono) _ hu20) ?_
      rintro _ s20 ⟨A21, c21, rfl, O21, N21, hc⟩
      have P12_21 := O12.apart N21
      have P14_21 := O14.apart N21
      have P18_21 := O18.apart N21
      replace N21 := N21.of hS
      have hS' := hS.trans hc
      replace O12 := O12.sub hc
      replace O14 := O14.sub hc
      replace O18 := O18.sub hc
      replace hS := hS'
      clear hS' hc
      try dsimp only [putL, setL, evL, getL]
      refine HL_cons rfl ?_
      refine o_assign ?_
      try dsimp only [putL, setL, evL, getL]
      refine HL_nil ?_
      refine hK19 _ _ ?_
      refine HT_seq_k ?_
      intro K22 hK22
      refine HT_region ?_
      refine HL_cons rfl ?_
      refine o_move ?_
      try dsimp only [putL, setL, evL, getL]
      refine HL_cons rfl ?_
      refine o_move ?_
      try dsimp only [putL, setL, evL, getL]
      obtain ⟨u23, hu23, H⟩ := headE H
      refine HL_cons rfl ?_
      refine o_call (args := #[.slice A18 u17.length c18, .slice A21 u20.length c21]) Try.func16 rfl rfl rfl (impl_DistanceOf.ok s20 A18 c18 u17 A21 c21 u20 O18.rd O21.rd _ hu23) ?_
      rintro _ s23 ⟨rfl, hc⟩
      have hS' := hS.trans hc
      replace O12 := O12.sub hc
      replace O14 := O14.sub hc
      replace O18 := O18.sub hc
      replace O21 := O21.sub hc
      replace hS := hS'
      clear hS' hc
      try dsimp only [putL, setL, evL, getL]
      refine HL_cons rfl ?_
      refine o_move ?_
      try dsimp only [putL, setL, evL, getL]
      refine HL_cons rfl ?_
      refine o_extract rfl rfl ?_
      try dsimp only [putL, setL, evL, getL]
      refine HL_cons rfl ?_
      refine o_extract rfl rfl ?_
      try dsimp only [putL, setL, evL, getL]
      refine HL_cons rfl ?_
      refine o_assign ?_
      try dsimp only [putL, setL, evL, getL]
      refine HL_cons rfl ?_
      refine o_assign ?_
      try dsimp only [putL, setL, evL, getL]
      refine HL_nil ?_
      refine hK22 _ _ ?_
      refine HT_seq_k ?_
      intro K32 hK32
      refine joinH H fun G33 hG33 H => ?_
      refine HT_joinK (fun l' s' => ∃ (x35 : Bool), G33 x35 = some r ∧ l' = [.slice A0p p0.length c0p, .slice A1p p1.length c1p, undef, undef, .bool false, .int .i64 u15.1, .bool u15.2, .slice A18 u17.length c18, .slice A21 u20.length c21, .int .i64 u23.1, .bool u23.2, .slice A0p p0.length c0p, .int .i64 (p0.length : Int), .bool (decide ((p0.length : Int) > 1048576)), .slice A1p p1.length c1p, .int .i64 (p1.length : Int), .bool (decide ((p1.length : Int) > 1048576)), .tuple #[.int .i64 u15.1, .bool u15.2], .slice A0p p0.length c0p, .slice A12 u11.length c12, .slice A1p p1.length c1p, .slice A14 u13.length c14, .tuple #[.int .i64 u15.1, .bool u15.2], .int .i64 u15.1, .bool u15.2, .slice A0p p0.length c0p, .slice A18 u17.length c18, .slice A1p p1.length c1p, .slice A21 u20.length c21, .tuple #[.int .i64 u23.1, .bool u23.2], .slice A18 u17.length c18, .slice A21 u20.length c21, .tuple #[.int .i64 u23.1, .bool u23.2], .int .i64 u23.1, .bool u23.2, getL l' 35, getL l' 36, getL l' 37, getL l' 38, getL l' 39, getL l' 40, getL l' 41, .bool x35, undef, undef, undef, undef, undef, undef, undef, undef, undef, undef] ∧ Sub s s' ∧ Own.is (Kd.int .i64) 3 s' A18 c18 u17 ∧ NewA s (eff A18 c18) ∧ Own.is (Kd.int .i64) 3 s' A21 c21 u20 ∧ NewA s (eff A21 c21) ∧ Apart (eff A18 c18) (eff A21 c21)) ?_ ?_
      · intro K33 hK33
        refine HT_region ?_
        refine HL_cons rfl ?_
        refine o_move ?_
        try dsimp only [putL, setL, evL, getL]
        refine HL_cons rfl ?_
        refine o_move ?_
        try dsimp only [putL, setL, evL, getL]
        refine HL_cons rfl ?_
        refine o_bin rfl rfl rfl ?_
        try dsimp only [putL, setL, evL, getL]
        refine HL_cons rfl ?_
        refine o_move ?_
        try dsimp only [putL, setL, evL, getL]
        rcases Bool.eq_false_or_eq_true (u23.1 != u15.1) with hb36 | hb36
        · replace H := iteT hb36 H
          refine HL_skip ?_ ?_
          · exact wantF (j := 3) (b := false) (t := 38) (c := u23.1 != u15.1) rfl rfl rfl rfl hb36
          try dsimp only [putL, setL, evL, getL]
          refine HL_skip ?_ ?_
          · exact wantF (j := 3) (b := false) (t := 38) (c := u23.1 != u15.1) rfl rfl rfl rfl hb36
          try dsimp only [putL, setL, evL, getL]
          refine HL_skip ?_ ?_
          · exact wantF (j := 3) (b := false) (t := 38) (c := u23.1 != u15.1) rfl rfl rfl rfl hb36
          try dsimp only [putL, setL, evL, getL]
          refine HL_cons rfl ?_
          refine o_pickT rfl hb36 ?_
          try dsimp only [putL, setL, evL, getL]
          refine HL_nil ?_
          exact hK33 _ _ ⟨true, H, rfl, hS, O18, N18, O21, N21, P18_21⟩
        · replace H := iteF hb36 H
          refine HL_want ?_ ?_
          · exact wantT (j := 3) (b := false) (t := 38) (c := u23.1 != u15.1) rfl rfl rfl rfl hb36
          refine o_move ?_
          try dsimp only [putL, setL, evL, getL]
          refine HL_want ?_ ?_
          · exact wantT (j := 3) (b := false) (t := 38) (c := u23.1 != u15.1) rfl rfl rfl rfl hb36
          refine o_move ?_
          try dsimp only [putL, setL, evL, getL]
          refine HL_want ?_ ?_
          · exact wantT (j := 3) (b := false) (t := 38) (c := u23.1 != u15.1) rfl rfl rfl rfl hb36
          refine o_neb rfl rfl Try.underlying4 ?_
          try dsimp only [putL, setL, evL, getL]
          refine HL_cons rfl ?_
          refine o_pickF rfl hb36 ?_
          try dsimp only [putL, setL, evL, getL]
          refine HL_nil ?_
          exact hK33 _ _ ⟨u23.2 != u15.2, H, rfl, hS, O18, N18, O21, N21, P18_21⟩
      · rintro l' s37 ⟨x35, H, hl, hS, O18, N18, O21, N21, P18_21⟩
        generalize getL l' 35 = j35, getL l' 36 = j36, getL l' 37 = j37, getL l' 38 = j38, getL l' 39 = j39, getL l' 40 = j40, getL l' 41 = j41 at hl
        subst hl
        replace H := hG33 _ H
        try dsimp only at H
        rcases Bool.eq_false_or_eq_true x35 with hb38 | hb38
        · replace H := iteT hb38 H
          refine HT_true (congrArg Value.bool hb38) ?_
          refine HT_seq_k ?_
          intro K39 hK39
          refine HT_region ?_
          refine HL_cons rfl ?_
          refine o_assign ?_
          try dsimp only [putL, setL, evL, getL]
          refine HL_nil ?_
          refine hK39 _ _ ?_
          refine HT_ret ?_
          obtain rfl := Option.some.inj (show some _ = some r from H)
          exact hQr _ _ [.bool false] ⟨rfl, trivial⟩ ⟨rfl, hS⟩
        · replace H := iteF hb38 H
          refine HT_false (congrArg Value.bool hb38) ?_
          refine HT_skip ?_
          refine hK32 _ _ ?_
          refine HT_seq_k ?_
          intro K40 hK40
          refine HT_seq_k ?_
          intro K41 hK41
          refine HT_region ?_
          refine HL_cons rfl ?_
          refine o_move ?_
          try dsimp only [putL, setL, evL, getL]
          refine HL_cons rfl ?_
          refine o_move ?_
          try dsimp only [putL, setL, evL, getL]
          obtain ⟨u42, hu42, H⟩ := headE H
          refine HL_cons rfl ?_
          refine o_call (args := #[.slice A0p p0.length c0p]) Try.func15 rfl rfl rfl (laws_toIntS.ok s37 A0p c0p p0 (HRp0.mono hS.mono) _ hu42) ?_
          rintro _ s42 ⟨A43, c43, rfl, O43, N43, hc⟩
          have P18_43 := O18.apart N43
          have P21_43 := O21.apart N43
          replace N43 := N43.of hS
          have hS' := hS.trans hc
          replace O18 := O18.sub hc
          replace O21 := O21.sub hc
          replace hS := hS'
          clear hS' hc
          try dsimp only [putL, setL, evL, getL]
          obtain ⟨u44, hu44, H⟩ := headE H
          refine HL_cons rfl ?_
          refine o_call (args := #[.slice A18 u17.length c18, .slice A43 u42.length c43]) Try.func17 rfl rfl rfl (laws_eqIntS.ok s42 A18 c18 u17 A43 c43 u42 O18.rd O43.rd _ hu44) ?_
          rintro _ s44 ⟨rfl, hc⟩
          have hS' := hS.trans hc
          replace O18 := O18.sub hc
          replace O21 := O21.sub hc
          replace O43 := O43.sub hc
          replace hS := hS'
          clear hS' hc
          try dsimp only [putL, setL, evL, getL]
          refine HL_cons rfl ?_
          refine o_not rfl ?_
          try dsimp only [putL, setL, evL, getL]
          refine HL_nil ?_
          refine hK41 _ _ ?_
          rcases Bool.eq_false_or_eq_true (!u44) with hb45 | hb45
          · replace H := iteT hb45 H
            refine HT_true (congrArg Value.bool hb45) ?_
            refine HT_seq_k ?_
            intro K46 hK46
            refine HT_region ?_
            refine HL_cons rfl ?_
            refine o_assign ?_
            try dsimp only [putL, setL, evL, getL]
            refine HL_nil ?_
            refine hK46 _ _ ?_
            refine HT_ret ?_
            obtain rfl := Option.some.inj (show some _ = some r from H)
            exact hQr _ _ [.bool false] ⟨rfl, trivial⟩ ⟨rfl, hS⟩
          · replace H := iteF hb45 H
            refine HT_false (congrArg Value.bool hb45) ?_
            refine HT_skip ?_
            refine hK40 _ _ ?_
            refine HT_seq_k ?_
            intro K47 hK47
            refine HT_seq_k ?_
            intro K48 hK48
            refine HT_region ?_
            refine HL_cons rfl ?_
            refine o_move ?_
            try dsimp only [putL, setL, evL, getL]
            refine HL_cons rfl ?_
            refine o_move ?_
            try dsimp only [putL, setL, evL, getL]
            obtain ⟨u49, hu49, H⟩ := headE H
            refine HL_cons rfl ?_
            refine o_call (args := #[.slice A1p p1.length c1p]) Try.func15 rfl rfl rfl (laws_toIntS.ok s44 A1p c1p p1 (HRp1.mono hS.mono) _ hu49) ?_
            rintro _ s49 ⟨A50, c50, rfl, O50, N50, hc⟩
            have P18_50 := O18.apart N50
            have P21_50 := O21.apart N50
            have P43_50 := O43.apart N50
            replace N50 := N50.of hS
            have hS' := hS.trans hc
            replace O18 := O18.sub hc
            replace O21 := O21.sub hc
            replace O43 := O43.sub hc
            replace hS := hS'
            clear hS' hc
            try dsimp only [putL, setL, evL, getL]
            obtain ⟨u51, hu51, H⟩ := headE H
            refine HL_cons rfl ?_
            refine o_call (args := #[.slice A21 u20.length c21, .slice A50 u49.length c50]) Try.func17 rfl rfl rfl (laws_eqIntS.ok s49 A21 c21 u20 A50 c50 u49 O21.rd O50.rd _ hu51) ?_
            rintro _ s51 ⟨rfl, hc⟩
            have hS' := hS.trans hc
            replace O18 := O18.sub hc
            replace O21 := O21.sub hc
            replace O43 := O43.sub hc
            replace O50 := O50.sub hc
            replace hS := hS'
            clear hS' hc
            try dsimp only [putL, setL, evL, getL]
            refine HL_cons rfl ?_
            refine o_not rfl ?_
            try dsimp only [putL, setL, evL, getL]
            refine HL_nil ?_
            refine hK48 _ _ ?_
            rcases Bool.eq_false_or_eq_true (!u51) with hb52 | hb52
            · replace H := iteT hb52 H
              refine HT_true (congrArg Value.bool hb52) ?_
              refine HT_seq_k ?_
              intro K53 hK53
              refine HT_region ?_
              refine HL_cons rfl ?_
              refine o_assign ?_
              try dsimp only [putL, setL, evL, getL]
              refine HL_nil ?_
              refine hK53 _ _ ?_
              refine HT_ret ?_
              obtain rfl := Option.some.inj (show some _ = some r from H)
              exact hQr _ _ [.bool false] ⟨rfl, trivial⟩ ⟨rfl, hS⟩
            · replace H := iteF hb52 H
              refine HT_false (congrArg Value.bool hb52) ?_
              refine HT_skip ?_
              refine hK47 _ _ ?_
              refine HT_seq_k ?_
              intro K54 hK54
              refine HT_region ?_
              refine HL_cons rfl ?_
              refine o_assign ?_
              try dsimp only [putL, setL, evL, getL]
              refine HL_nil ?_
              refine hK54 _ _ ?_
              refine HT_ret ?_
              obtain rfl := Option.some.inj (show some _ = some r from H)
              exact hQr _ _ [.bool true] ⟨rfl, trivial⟩ ⟨rfl, hS⟩
end Go.Proofs.Ytihocjbngajjkaa
