/- The functions that the law reaches, as plain functions, each with its contract: printed by a program of the prover's. No conditions: lemmas. -/
import Derived.Test.YtkieinlcpkpcjaaWLDistance0
set_option linter.unusedVariables false
set_option linter.unusedSimpArgs false
namespace Go.Proofs.Ytkieinlcpkpcjaa
open Go Go.Proofs.GL
def spec_l15Row.l1 (p0 : List (Int)) (p1 : Int) (p2 : List (Int)) : Nat → (List (Int)) → Int → Option (List (Int))
  | 0, _, _ => none
  | kf + 1, x177, x178 => if (decide (x178 < (p2.length : Int))) = true then ((rd? p2 x178).bind fun u247 => (rd? p0 x178).bind fun u249 => (if (u247 != p1) = true then (some (IntKind.i64.wrap (u249 + 1))) else (some u249)).bind fun (o : Int) => match o with | x253 => ((rd? p0 (IntKind.i64.wrap (x178 + 1))).bind fun u258 => (rd? x177 x178).bind fun u259 => (spec_l1Least.f u258 u259).bind fun u260 => (spec_l1Least.f x253 (IntKind.i64.wrap (u260 + 1))).bind fun u261 => (app? 17592186044416 x177 [u261]).bind fun x263 => spec_l15Row.l1 p0 p1 p2 kf x263 (IntKind.i64.wrap (x178 + 1)))) else (some x177)
def spec_l15Row.f (p0 : List (Int)) (p1 : Int) (p2 : List (Int)) (p3 : Int) : Option (List (Int)) := (spec_l15Row.l1 p0 p1 p2 ((((p2.length : Int)) - (0)).toNat + 2) [p3] 0).bind fun (o : (List (Int))) => match o with | x135 => (some x135)
def spec_l15Row.post (sb s : St) (F0 : Fp) (r : (List (Int))) : Value → St → Prop := fun v s' => ∃ (A0 : Option Addr) (c0 : Nat), v = .slice A0 r.length c0 ∧ Hp sb s F0 s' [Ck.ol OI 3 A0 c0 r]
set_option maxRecDepth 100000 in
set_option maxHeartbeats 4000000 in
theorem spec_l15Row.ok (sb s : St) (F0 : Fp) (A0p : Option Addr) (c0p : Nat) (p0 : List (Int)) (p1 : Int) (A2p : Option Addr) (c2p : Nat) (p2 : List (Int)) (p3 : Int) (HRp0 : Rd KI sb A0p c0p p0) (HRp2 : Rd KI sb A2p c2p p2) (hH : Hp sb s F0 s []) (r : (List (Int))) (H : spec_l15Row.f p0 p1 p2 p3 = some r) : GCall Try.prog 110 #[.slice A0p p0.length c0p, .int .i64 p1, .slice A2p p2.length c2p, .int .i64 p3] s (spec_l15Row.post sb s F0 r) := by
  refine GCall_ofk [.tmp 8] [.slice A0p p0.length c0p, .int .i64 p1, .slice A2p p2.length c2p, .int .i64 p3, undef, undef, undef, undef, undef, undef, undef, undef, undef, undef, undef, undef, undef, undef, undef, undef, undef, undef, undef, undef, undef, undef, undef, undef, undef, undef, undef, undef, undef, undef, undef, undef, undef, undef, undef, undef, undef, undef, undef, undef, undef, undef, undef, undef, undef, undef] Try.func110 rfl rfl rfl ?_
  intro w Q hQr hQn hQp
  replace H := topE H
  unfold spec_l15Row.f at H
  refine HT_seq_k ?_
  intro K1 hK1
  refine HT_region ?_
  refine HL_cons rfl ?_
  refine o_assign ?_
  try dsimp only [putL, setL, evL, getL]
  refine HL_nil ?_
  refine hK1 _ _ ?_
  refine HT_seq_k ?_
  intro K2 hK2
  refine HT_region ?_
  refine HL_cons rfl ?_
  refine o_move ?_
  try dsimp only [putL, setL, evL, getL]
  refine HL_cons rfl ?_
  refine o_litF (K := KI) (O := OI) (ca := #[.int .i64 p3]) [[.int .i64 p3]] [p3] hH Try.underlying24 tI3 rfl (by decide) rfl rfl (by kernel_rfl) rfl ⟨rfl, Ent.own (Ent.flat rfl), trivial⟩ ?_
  intro A3 s3 hH' hG
  replace hH : Hp sb s F0 s3 [Ck.ol OI 3 A3 1 [p3]] := hH'
  clear hH' hG
  try dsimp only [putL, setL, evL, getL]
  refine HL_cons rfl ?_
  refine o_assign ?_
  try dsimp only [putL, setL, evL, getL]
  refine HL_nil ?_
  refine hK2 _ _ ?_
  refine HT_seq_k ?_
  intro K4 hK4
  refine HT_seq_k ?_
  intro K5 hK5
  refine HT_region ?_
  refine HL_cons rfl ?_
  refine o_move ?_
  try dsimp only [putL, setL, evL, getL]
  refine HL_cons rfl ?_
  refine o_len rfl Try.underlying24 ?_
  try dsimp only [putL, setL, evL, getL]
  refine HL_cons rfl ?_
  refine o_move ?_
  try dsimp only [putL, setL, evL, getL]
  refine HL_nil ?_
  refine hK5 _ _ ?_
  refine joinH H fun G6 hG6 H => ?_
  refine HT_toK (fun l' s' => ∃ (x135 : List (Int)) (A135 : Option Addr) (c135 : Nat), G6 x135 = some r ∧ l' = [.slice A0p p0.length c0p, .int .i64 p1, .slice A2p p2.length c2p, .int .i64 p3, undef, undef, undef, undef, .slice none 0 0, .slice A135 x135.length c135, getL l' 10, getL l' 11, getL l' 12, .int .i64 p3, .slice A3 [p3].length 1, .slice A2p p2.length c2p, .int .i64 (p2.length : Int), getL l' 17, getL l' 18, getL l' 19, getL l' 20, getL l' 21, getL l' 22, getL l' 23, getL l' 24, getL l' 25, getL l' 26, getL l' 27, getL l' 28, getL l' 29, getL l' 30, getL l' 31, getL l' 32, getL l' 33, getL l' 34, getL l' 35, getL l' 36, getL l' 37, getL l' 38, getL l' 39, getL l' 40, getL l' 41, getL l' 42, getL l' 43, getL l' 44, getL l' 45, getL l' 46, getL l' 47, getL l' 48, undef] ∧ Hp sb s F0 s' [Ck.ol OI 3 A135 c135 x135]) ?_ ?_
  · intro K6 hK6
    refine HT_block ?_
    refine HT_loopK (fun kf l' s' => ∃ (x177 : List (Int)) (A177 : Option Addr) (c177 : Nat) (x178 : Int), (spec_l15Row.l1 p0 p1 p2 kf x177 x178).bind G6 = some r ∧ l' = [.slice A0p p0.length c0p, .int .i64 p1, .slice A2p p2.length c2p, .int .i64 p3, undef, undef, undef, undef, .slice none 0 0, .slice A177 x177.length c177, getL l' 10, getL l' 11, getL l' 12, .int .i64 p3, .slice A3 [p3].length 1, .slice A2p p2.length c2p, .int .i64 (p2.length : Int), .int .i64 x178, getL l' 18, getL l' 19, getL l' 20, getL l' 21, getL l' 22, getL l' 23, getL l' 24, getL l' 25, getL l' 26, getL l' 27, getL l' 28, getL l' 29, getL l' 30, getL l' 31, getL l' 32, getL l' 33, getL l' 34, getL l' 35, getL l' 36, getL l' 37, getL l' 38, getL l' 39, getL l' 40, getL l' 41, getL l' 42, getL l' 43, getL l' 44, getL l' 45, getL l' 46, getL l' 47, getL l' 48, undef] ∧ Hp sb s F0 s' [Ck.ol OI 3 A177 c177 x177]) ((((p2.length : Int)) - (0)).toNat + 2) ⟨[p3], A3, 1, 0, H, rfl, hH⟩ ?_
    rintro kf l' s222 ⟨x177, A177, c177, x178, H, hl, hH⟩ K222 hK222
    generalize getL l' 10 = j10, getL l' 11 = j11, getL l' 12 = j12, getL l' 18 = j18, getL l' 19 = j19, getL l' 20 = j20, getL l' 21 = j21, getL l' 22 = j22, getL l' 23 = j23, getL l' 24 = j24, getL l' 25 = j25, getL l' 26 = j26, getL l' 27 = j27, getL l' 28 = j28, getL l' 29 = j29, getL l' 30 = j30, getL l' 31 = j31, getL l' 32 = j32, getL l' 33 = j33, getL l' 34 = j34, getL l' 35 = j35, getL l' 36 = j36, getL l' 37 = j37, getL l' 38 = j38, getL l' 39 = j39, getL l' 40 = j40, getL l' 41 = j41, getL l' 42 = j42, getL l' 43 = j43, getL l' 44 = j44, getL l' 45 = j45, getL l' 46 = j46, getL l' 47 = j47, getL l' 48 = j48 at hl
    subst hl
    cases kf with
    | zero => simp [spec_l15Row.l1] at H
    | succ kf =>
      rw [spec_l15Row.l1] at H
      refine HT_seq_k ?_
      intro K223 hK223
      refine HT_region ?_
      refine HL_cons rfl ?_
      refine o_bin rfl rfl rfl ?_
      try dsimp only [putL, setL, evL, getL]
      refine HL_nil ?_
      refine hK223 _ _ ?_
      refine HT_seq_k ?_
      intro K224 hK224
      rcases Bool.eq_false_or_eq_true (decide (x178 < (p2.length : Int))) with hb225 | hb225
      · replace H := iteT hb225 H
        refine HT_true (congrArg Value.bool hb225) ?_
        refine HT_skip ?_
        refine hK224 _ _ ?_
        refine HT_seq_k ?_
        intro K245 hK245
        refine HT_block ?_
        refine HT_seq_k ?_
        intro K246 hK246
        refine HT_region ?_
        refine HL_cons rfl ?_
        refine o_move ?_
        try dsimp only [putL, setL, evL, getL]
        replace H := headE H
        obtain ⟨u247, hu247, H⟩ := H
        obtain ⟨b247, o247, cs247, hr247, hh247, hel247⟩ := Rd.elb HRp2 hu247
        obtain rfl := hr247
        refine HL_cons rfl ?_
        refine hel247 s222 rfl rfl Try.underlying24 tI3 ?_
        try dsimp only [putL, setL, evL, getL]
        refine HL_cons rfl ?_
        refine o_load' rfl Try.underlying3 rfl ((hh247 hH.bs.mono) 0 _ rfl) ?_
        try dsimp only [putL, setL, evL, getL]
        refine HL_cons rfl ?_
        refine o_assign ?_
        try dsimp only [putL, setL, evL, getL]
        refine HL_cons rfl ?_
        refine o_assign ?_
        try dsimp only [putL, setL, evL, getL]
        refine HL_nil ?_
        refine hK246 _ _ ?_
        refine HT_seq_k ?_
        intro K248 hK248
        refine HT_region ?_
        refine HL_cons rfl ?_
        refine o_move ?_
        try dsimp only [putL, setL, evL, getL]
        refine HL_cons rfl ?_
        refine o_move ?_
        try dsimp only [putL, setL, evL, getL]
        replace H := headE H
        obtain ⟨u249, hu249, H⟩ := H
        obtain ⟨b249, o249, cs249, hr249, hh249, hel249⟩ := Rd.elb HRp0 hu249
        obtain rfl := hr249
        refine HL_cons rfl ?_
        refine hel249 s222 rfl rfl Try.underlying24 tI3 ?_
        try dsimp only [putL, setL, evL, getL]
        refine HL_cons rfl ?_
        refine o_load' rfl Try.underlying3 rfl ((hh249 hH.bs.mono) 0 _ rfl) ?_
        try dsimp only [putL, setL, evL, getL]
        refine HL_cons rfl ?_
        refine o_assign ?_
        try dsimp only [putL, setL, evL, getL]
        refine HL_nil ?_
        refine hK248 _ _ ?_
        refine joinH H fun G250 hG250 H => ?_
        refine HT_joinK (fun l' s' => ∃ (x253 : Int), G250 x253 = some r ∧ l' = [.slice A0p p0.length c0p, .int .i64 p1, .slice A2p p2.length c2p, .int .i64 p3, undef, undef, undef, undef, .slice none 0 0, .slice A177 x177.length c177, .int .i64 x178, .int .i64 u247, .int .i64 x253, .int .i64 p3, .slice A3 [p3].length 1, .slice A2p p2.length c2p, .int .i64 (p2.length : Int), .int .i64 x178, .bool (decide (x178 < (p2.length : Int))), .int .i64 x178, .pointer (some ⟨b247, o247, none⟩), .int .i64 u247, .slice A0p p0.length c0p, .int .i64 x178, .pointer (some ⟨b249, o249, none⟩), .int .i64 u249, getL l' 26, getL l' 27, getL l' 28, getL l' 29, getL l' 30, j31, j32, j33, j34, j35, j36, j37, j38, j39, j40, j41, j42, j43, j44, j45, j46, j47, j48, undef] ∧ Hp sb s F0 s' [Ck.ol OI 3 A177 c177 x177]) ?_ ?_
        · intro K250 hK250
          refine HT_seq_k ?_
          intro K254 hK254
          refine HT_region ?_
          refine HL_cons rfl ?_
          refine o_move ?_
          try dsimp only [putL, setL, evL, getL]
          refine HL_cons rfl ?_
          refine o_move ?_
          try dsimp only [putL, setL, evL, getL]
          refine HL_cons rfl ?_
          refine o_bin rfl rfl rfl ?_
          try dsimp only [putL, setL, evL, getL]
          refine HL_nil ?_
          refine hK254 _ _ ?_
          rcases Bool.eq_false_or_eq_true (u247 != p1) with hb255 | hb255
          · replace H := iteT hb255 H
            refine HT_true (congrArg Value.bool hb255) ?_
            refine HT_region ?_
            refine HL_cons rfl ?_
            refine o_move ?_
            try dsimp only [putL, setL, evL, getL]
            refine HL_cons rfl ?_
            refine o_bin rfl rfl rfl ?_
            try dsimp only [putL, setL, evL, getL]
            refine HL_cons rfl ?_
            refine o_assign ?_
            try dsimp only [putL, setL, evL, getL]
            refine HL_nil ?_
            exact hK250 _ _ ⟨IntKind.i64.wrap (u249 + 1), H, rfl, hH⟩
          · replace H := iteF hb255 H
            refine HT_false (congrArg Value.bool hb255) ?_
            refine HT_skip ?_
            exact hK250 _ _ ⟨u249, H, rfl, hH⟩
        · rintro l' s256 ⟨x253, H, hl, hH⟩
          generalize getL l' 26 = j26, getL l' 27 = j27, getL l' 28 = j28, getL l' 29 = j29, getL l' 30 = j30 at hl
          subst hl
          replace H := hG250 _ H
          try dsimp only at H
          refine HT_seq_k ?_
          intro K257 hK257
          refine HX_draw hMix ?_
          refine HX_lim (R := fun _ => True) (k := 0) (fun s' => Gro s256 s') 15 ?_
          have hR := Gro.refl s256
          have hH0 := hH
          refine HK_readP 0 (v := .int .i64 x253) rfl (by kernel_rfl) (fun c l s h => hQp c l s h) rfl (fun s' K hK => ?_) rfl rfl (fun _ => hR) ?_
          · refine o_move ?_
            exact hK
          try dsimp only [putL, setL, evL, getL]
          refine HK_readP 1 (v := .slice A0p p0.length c0p) rfl (by kernel_rfl) (fun c l s h => hQp c l s h) rfl (fun s' K hK => ?_) rfl rfl (fun _ => hR) ?_
          · refine o_move ?_
            exact hK
          try dsimp only [putL, setL, evL, getL]
          refine HK_readP 2 (v := .int .i64 x178) rfl (by kernel_rfl) (fun c l s h => hQp c l s h) rfl (fun s' K hK => ?_) rfl rfl (fun _ => hR) ?_
          · refine o_move ?_
            exact hK
          try dsimp only [putL, setL, evL, getL]
          refine HK_readP 3 (v := .int .i64 (IntKind.i64.wrap (x178 + 1))) rfl (by kernel_rfl) (fun c l s h => hQp c l s h) rfl (fun s' K hK => ?_) rfl rfl (fun _ => hR) ?_
          · refine o_bin rfl rfl rfl ?_
            exact hK
          try dsimp only [putL, setL, evL, getL]
          replace H := headE H
          obtain ⟨u258, hu258, H⟩ := H
          obtain ⟨b258, o258, cs258, hr258, hh258, hel258⟩ := Rd.elb HRp0 hu258
          obtain rfl := hr258
          refine HK_readP 4 (v := .pointer (some ⟨b258, o258, none⟩)) rfl (by kernel_rfl) (fun c l s h => hQp c l s h) rfl (fun s' K hK => ?_) rfl rfl (fun _ => hR) ?_
          · refine hel258 s' rfl rfl Try.underlying24 tI3 ?_
            exact hK
          try dsimp only [putL, setL, evL, getL]
          refine HK_read 5 (v := .int .i64 u258) rfl (by kernel_rfl) (fun c l s h => hQp c l s h) rfl (fun s' hR' K hK => ?_) rfl rfl hR ?_
          · refine o_load' rfl Try.underlying3 rfl ((hh258 (hH0.bs.mono.trans hR'.mono)) 0 _ rfl) ?_
            exact hK
          try dsimp only [putL, setL, evL, getL]
          refine HK_readP 6 (v := .slice A177 x177.length c177) rfl (by kernel_rfl) (fun c l s h => hQp c l s h) rfl (fun s' K hK => ?_) rfl rfl (fun _ => hR) ?_
          · refine o_move ?_
            exact hK
          try dsimp only [putL, setL, evL, getL]
          refine HK_readP 7 (v := .int .i64 x178) rfl (by kernel_rfl) (fun c l s h => hQp c l s h) rfl (fun s' K hK => ?_) rfl rfl (fun _ => hR) ?_
          · refine o_move ?_
            exact hK
          try dsimp only [putL, setL, evL, getL]
          replace H := headE H
          obtain ⟨u259, hu259, H⟩ := H
          obtain ⟨b259, o259, cs259, hA259, hr259, hh259, hel259⟩ := hH0.elo 0 rfl hu259
          obtain rfl := hr259
          refine HK_readP 8 (v := .pointer (some ⟨b259, o259 + Int.toNat x178 * Kd.sz KI, none⟩)) rfl (by kernel_rfl) (fun c l s h => hQp c l s h) rfl (fun s' K hK => ?_) rfl rfl (fun _ => hR) ?_
          · refine hel259 s' rfl rfl Try.underlying24 tI3 ?_
            exact hK
          try dsimp only [putL, setL, evL, getL]
          refine HK_read 9 (v := .int .i64 u259) rfl (by kernel_rfl) (fun c l s h => hQp c l s h) rfl (fun s' hR' K hK => ?_) rfl rfl hR ?_
          · refine o_load' rfl Try.underlying3 rfl (has_gro hR' (hh259 0 _ rfl)) ?_
            exact hK
          try dsimp only [putL, setL, evL, getL]
          refine HK_more [10] (by kernel_rfl) rfl (fun _ => hR) ⟨⟨_, rfl, Or.inl ⟨rfl, ?_⟩⟩, trivial⟩
          replace H := headE H
          obtain ⟨u260, hu260, H⟩ := H
          skip
          refine o_call (args := #[.int .i64 u258, .int .i64 u259]) Try.func182 rfl rfl rfl (spec_l1Least.ok sb s256 no u258 u259 (Hp.own hH.bs) _ hu260) ?_
          rintro _ s260 ⟨rfl, hD⟩
          replace hR := hR.trans hD.gro
          replace hH := hH.back0 hD (Up.refl _ _ _)
          clear hD
          dsimp only [addC, setC, rmC, selC, getC] at hH
          try dsimp only [putL, setL, evL, getL]
          refine HK_readP 11 (v := .int .i64 (IntKind.i64.wrap (u260 + 1))) rfl (by kernel_rfl) (fun c l s h => hQp c l s h) rfl (fun s' K hK => ?_) rfl rfl (fun _ => hR) ?_
          · refine o_bin rfl rfl rfl ?_
            exact hK
          try dsimp only [putL, setL, evL, getL]
          refine HK_more [12] (by kernel_rfl) rfl (fun _ => hR) ⟨⟨_, rfl, Or.inl ⟨rfl, ?_⟩⟩, trivial⟩
          replace H := headE H
          obtain ⟨u261, hu261, H⟩ := H
          skip
          refine o_call (args := #[.int .i64 x253, .int .i64 (IntKind.i64.wrap (u260 + 1))]) Try.func182 rfl rfl rfl (spec_l1Least.ok sb s260 no x253 (IntKind.i64.wrap (u260 + 1)) (Hp.own hH.bs) _ hu261) ?_
          rintro _ s261 ⟨rfl, hD⟩
          replace hR := hR.trans hD.gro
          replace hH := hH.back0 hD (Up.refl _ _ _)
          clear hD
          dsimp only [addC, setC, rmC, selC, getC] at hH
          try dsimp only [putL, setL, evL, getL]
          refine HK_more [13] (by kernel_rfl) rfl (fun _ => hR) ⟨⟨_, rfl, Or.inl ⟨rfl, ?_⟩⟩, trivial⟩
          skip
          refine o_assign ?_
          try dsimp only [putL, setL, evL, getL]
          refine HK_done (fun _ => hR) (by kernel_rfl) ?_
          refine hK257 _ _ ?_
          refine HT_region ?_
          refine HL_cons rfl ?_
          refine o_move ?_
          try dsimp only [putL, setL, evL, getL]
          refine HL_cons rfl ?_
          refine o_move ?_
          try dsimp only [putL, setL, evL, getL]
          refine HL_cons rfl ?_
          refine o_litF (K := KI) (O := OI) (ca := #[.int .i64 u261]) [[.int .i64 u261]] [u261] hH Try.underlying24 tI3 rfl (by decide) rfl rfl (by kernel_rfl) rfl ⟨rfl, Ent.own (Ent.flat rfl), trivial⟩ ?_
          intro A262 s262 hH' hG
          replace hH : Hp sb s F0 s262 [Ck.ol OI 3 A177 c177 x177, Ck.ol OI 3 A262 1 [u261]] := hH'
          clear hH' hG
          try dsimp only [putL, setL, evL, getL]
          replace H := headE H
          obtain ⟨x263, hx263, H⟩ := H
          refine HL_cons rfl ?_
          refine o_appF (K := KI) (n := 17592186044416) (A := A177) (c := c177) (xs := x177) (ys := [u261]) (B := A262) (c2 := 1) hH 0 rfl rfl rfl rfl Try.underlying24 tI3 rfl (by decide) (by decide) (by decide) (Src.flat (hH.rd 1 rfl)) hx263 ?_
          intro A263 c263 s263 hH'
          replace hH : Hp sb s F0 s263 [Ck.ol OI 3 A263 c263 x263, Ck.ol OI 3 A262 1 [u261]] := hH'
          clear hH'
          try dsimp only [putL, setL, evL, getL]
          refine HL_cons rfl ?_
          refine o_assign ?_
          try dsimp only [putL, setL, evL, getL]
          refine HL_nil ?_
          refine hK245 _ _ ?_
          refine HT_region ?_
          refine HL_cons rfl ?_
          refine o_bin rfl rfl rfl ?_
          try dsimp only [putL, setL, evL, getL]
          refine HL_cons rfl ?_
          refine o_move ?_
          try dsimp only [putL, setL, evL, getL]
          refine HL_nil ?_
          exact hK222 _ _ ⟨kf, Nat.lt_succ_self kf, x263, A263, c263, IntKind.i64.wrap (x178 + 1), H, rfl, hH.sel [0] (by decide)⟩
      · replace H := iteF hb225 H
        refine HT_false (congrArg Value.bool hb225) ?_
        refine HT_exit ?_
        exact hK6 _ _ ⟨x177, A177, c177, H, rfl, hH⟩
  · rintro l' s264 ⟨x135, A135, c135, H, hl, hH⟩
    generalize getL l' 10 = j10, getL l' 11 = j11, getL l' 12 = j12, getL l' 17 = j17, getL l' 18 = j18, getL l' 19 = j19, getL l' 20 = j20, getL l' 21 = j21, getL l' 22 = j22, getL l' 23 = j23, getL l' 24 = j24, getL l' 25 = j25, getL l' 26 = j26, getL l' 27 = j27, getL l' 28 = j28, getL l' 29 = j29, getL l' 30 = j30, getL l' 31 = j31, getL l' 32 = j32, getL l' 33 = j33, getL l' 34 = j34, getL l' 35 = j35, getL l' 36 = j36, getL l' 37 = j37, getL l' 38 = j38, getL l' 39 = j39, getL l' 40 = j40, getL l' 41 = j41, getL l' 42 = j42, getL l' 43 = j43, getL l' 44 = j44, getL l' 45 = j45, getL l' 46 = j46, getL l' 47 = j47, getL l' 48 = j48 at hl
    subst hl
    replace H := hG6 _ H
    try dsimp only at H
    refine hK4 _ _ ?_
    refine HT_seq_k ?_
    intro K265 hK265
    refine HT_region ?_
    refine HL_cons rfl ?_
    refine o_move ?_
    try dsimp only [putL, setL, evL, getL]
    refine HL_cons rfl ?_
    refine o_assign ?_
    try dsimp only [putL, setL, evL, getL]
    refine HL_nil ?_
    refine hK265 _ _ ?_
    refine HT_ret ?_
    exact hQr _ _ [.slice A135 x135.length c135] ⟨rfl, trivial⟩ (retH (fun r => spec_l15Row.post sb s F0 r _ _) (show some _ = some r from H) ⟨A135, c135, rfl, hH⟩)
def spec_l15Distance.l1 (p0 : List (Int)) (p1 : List (Int)) : Nat → (List (Int)) → Int → Option (List (Int))
  | 0, _, _ => none
  | kf + 1, x46, x47 => if (decide (x47 < (p0.length : Int))) = true then ((rd? p0 x47).bind fun u64 => (spec_l15Row.f x46 u64 p1 (IntKind.i64.wrap (x47 + 1))).bind fun u65 => spec_l15Distance.l1 p0 p1 kf u65 (IntKind.i64.wrap (x47 + 1))) else (some x46)
def spec_l15Distance.f (p0 : List (Int)) (p1 : List (Int)) : Option Int := (spec_l15Numbers.f (IntKind.i64.wrap ((p1.length : Int) + 1))).bind fun u3 => (spec_l15Distance.l1 p0 p1 ((((p0.length : Int)) - (0)).toNat + 2) u3 0).bind fun (o : (List (Int))) => match o with | x37 => ((rd? x37 (p1.length : Int)).bind fun u69 => some u69)
def spec_l15Distance.post (sb s : St) (F0 : Fp) (r : Int) : Value → St → Prop := fun v s' => v = .int .i64 r ∧ Hp sb s F0 s' []
set_option maxRecDepth 100000 in
set_option maxHeartbeats 4000000 in
theorem spec_l15Distance.ok (sb s : St) (F0 : Fp) (A0p : Option Addr) (c0p : Nat) (p0 : List (Int)) (A1p : Option Addr) (c1p : Nat) (p1 : List (Int)) (HRp0 : Rd KI sb A0p c0p p0) (HRp1 : Rd KI sb A1p c1p p1) (hH : Hp sb s F0 s []) (r : Int) (H : spec_l15Distance.f p0 p1 = some r) : GCall Try.prog 102 #[.slice A0p p0.length c0p, .slice A1p p1.length c1p] s (spec_l15Distance.post sb s F0 r) := by
  refine GCall_ofk [.tmp 4] [.slice A0p p0.length c0p, .slice A1p p1.length c1p, undef, undef, undef, undef, undef, undef, undef, undef, undef, undef, undef, undef, undef, undef, undef, undef, undef, undef, undef, undef, undef, undef, undef, undef, undef, undef, undef, undef, undef] Try.func102 rfl rfl rfl ?_
  intro w Q hQr hQn hQp
  replace H := topE H
  unfold spec_l15Distance.f at H
  refine HT_seq_k ?_
  intro K1 hK1
  refine HT_region ?_
  refine HL_cons rfl ?_
  refine o_assign ?_
  try dsimp only [putL, setL, evL, getL]
  refine HL_nil ?_
  refine hK1 _ _ ?_
  refine HT_seq_k ?_
  intro K2 hK2
  refine HT_region ?_
  refine HL_cons rfl ?_
  refine o_move ?_
  try dsimp only [putL, setL, evL, getL]
  refine HL_cons rfl ?_
  refine o_len rfl Try.underlying24 ?_
  try dsimp only [putL, setL, evL, getL]
  refine HL_cons rfl ?_
  refine o_bin rfl rfl rfl ?_
  try dsimp only [putL, setL, evL, getL]
  replace H := headE H
  obtain ⟨u3, hu3, H⟩ := H
  refine HL_cons rfl ?_
  refine o_call (args := #[.int .i64 (IntKind.i64.wrap ((p1.length : Int) + 1))]) Try.func109 rfl rfl rfl (spec_l15Numbers.ok sb s no (IntKind.i64.wrap ((p1.length : Int) + 1)) (Hp.own hH.bs) _ hu3) ?_
  rintro _ s3 ⟨A4, c4, rfl, hD⟩
  replace hH := hH.back0 hD (Up.refl _ _ _)
  clear hD
  dsimp only [addC, setC, rmC, selC, getC] at hH
  try dsimp only [putL, setL, evL, getL]
  refine HL_cons rfl ?_
  refine o_assign ?_
  try dsimp only [putL, setL, evL, getL]
  refine HL_nil ?_
  refine hK2 _ _ ?_
  refine HT_seq_k ?_
  intro K5 hK5
  refine HT_seq_k ?_
  intro K6 hK6
  refine HT_region ?_
  refine HL_cons rfl ?_
  refine o_move ?_
  try dsimp only [putL, setL, evL, getL]
  refine HL_cons rfl ?_
  refine o_len rfl Try.underlying24 ?_
  try dsimp only [putL, setL, evL, getL]
  refine HL_cons rfl ?_
  refine o_move ?_
  try dsimp only [putL, setL, evL, getL]
  refine HL_nil ?_
  refine hK6 _ _ ?_
  refine joinH H fun G7 hG7 H => ?_
  refine HT_toK (fun l' s' => ∃ (x37 : List (Int)) (A37 : Option Addr) (c37 : Nat), G7 x37 = some r ∧ l' = [.slice A0p p0.length c0p, .slice A1p p1.length c1p, undef, undef, .int .i64 0, .slice A37 x37.length c37, getL l' 6, getL l' 7, .slice A1p p1.length c1p, .int .i64 (p1.length : Int), .int .i64 (IntKind.i64.wrap ((p1.length : Int) + 1)), .slice A4 u3.length c4, .slice A0p p0.length c0p, .int .i64 (p0.length : Int), getL l' 14, getL l' 15, getL l' 16, getL l' 17, getL l' 18, getL l' 19, getL l' 20, getL l' 21, getL l' 22, getL l' 23, getL l' 24, getL l' 25, undef, undef, undef, undef, undef] ∧ Hp sb s F0 s' [Ck.ol OI 3 A37 c37 x37]) ?_ ?_
  · intro K7 hK7
    refine HT_block ?_
    refine HT_loopK (fun kf l' s' => ∃ (x46 : List (Int)) (A46 : Option Addr) (c46 : Nat) (x47 : Int), (spec_l15Distance.l1 p0 p1 kf x46 x47).bind G7 = some r ∧ l' = [.slice A0p p0.length c0p, .slice A1p p1.length c1p, undef, undef, .int .i64 0, .slice A46 x46.length c46, getL l' 6, getL l' 7, .slice A1p p1.length c1p, .int .i64 (p1.length : Int), .int .i64 (IntKind.i64.wrap ((p1.length : Int) + 1)), .slice A4 u3.length c4, .slice A0p p0.length c0p, .int .i64 (p0.length : Int), .int .i64 x47, getL l' 15, getL l' 16, getL l' 17, getL l' 18, getL l' 19, getL l' 20, getL l' 21, getL l' 22, getL l' 23, getL l' 24, getL l' 25, undef, undef, undef, undef, undef] ∧ Hp sb s F0 s' [Ck.ol OI 3 A46 c46 x46]) ((((p0.length : Int)) - (0)).toNat + 2) ⟨u3, A4, c4, 0, H, rfl, hH⟩ ?_
    rintro kf l' s58 ⟨x46, A46, c46, x47, H, hl, hH⟩ K58 hK58
    generalize getL l' 6 = j6, getL l' 7 = j7, getL l' 15 = j15, getL l' 16 = j16, getL l' 17 = j17, getL l' 18 = j18, getL l' 19 = j19, getL l' 20 = j20, getL l' 21 = j21, getL l' 22 = j22, getL l' 23 = j23, getL l' 24 = j24, getL l' 25 = j25 at hl
    subst hl
    cases kf with
    | zero => simp [spec_l15Distance.l1] at H
    | succ kf =>
      rw [spec_l15Distance.l1] at H
      refine HT_seq_k ?_
      intro K59 hK59
      refine HT_region ?_
      refine HL_cons rfl ?_
      refine o_bin rfl rfl rfl ?_
      try dsimp only [putL, setL, evL, getL]
      refine HL_nil ?_
      refine hK59 _ _ ?_
      refine HT_seq_k ?_
      intro K60 hK60
      rcases Bool.eq_false_or_eq_true (decide (x47 < (p0.length : Int))) with hb61 | hb61
      · replace H := iteT hb61 H
        refine HT_true (congrArg Value.bool hb61) ?_
        refine HT_skip ?_
        refine hK60 _ _ ?_
        refine HT_seq_k ?_
        intro K62 hK62
        refine HT_block ?_
        refine HT_seq_k ?_
        intro K63 hK63
        refine HT_region ?_
        refine HL_cons rfl ?_
        refine o_move ?_
        try dsimp only [putL, setL, evL, getL]
        replace H := headE H
        obtain ⟨u64, hu64, H⟩ := H
        obtain ⟨b64, o64, cs64, hr64, hh64, hel64⟩ := Rd.elb HRp0 hu64
        obtain rfl := hr64
        refine HL_cons rfl ?_
        refine hel64 s58 rfl rfl Try.underlying24 tI3 ?_
        try dsimp only [putL, setL, evL, getL]
        refine HL_cons rfl ?_
        refine o_load' rfl Try.underlying3 rfl ((hh64 hH.bs.mono) 0 _ rfl) ?_
        try dsimp only [putL, setL, evL, getL]
        refine HL_cons rfl ?_
        refine o_assign ?_
        try dsimp only [putL, setL, evL, getL]
        refine HL_cons rfl ?_
        refine o_assign ?_
        try dsimp only [putL, setL, evL, getL]
        refine HL_nil ?_
        refine hK63 _ _ ?_
        refine HT_region ?_
        refine HL_cons rfl ?_
        refine o_move ?_
        try dsimp only [putL, setL, evL, getL]
        refine HL_cons rfl ?_
        refine o_move ?_
        try dsimp only [putL, setL, evL, getL]
        refine HL_cons rfl ?_
        refine o_move ?_
        try dsimp only [putL, setL, evL, getL]
        refine HL_cons rfl ?_
        refine o_move ?_
        try dsimp only [putL, setL, evL, getL]
        refine HL_cons rfl ?_
        refine o_bin rfl rfl rfl ?_
        try dsimp only [putL, setL, evL, getL]
        replace H := headE H
        obtain ⟨u65, hu65, H⟩ := H
        refine HL_cons rfl ?_
        refine o_call (args := #[.slice A46 x46.length c46, .int .i64 u64, .slice A1p p1.length c1p, .int .i64 (IntKind.i64.wrap (x47 + 1))]) Try.func110 rfl rfl rfl (spec_l15Row.ok s58 s58 no A46 c46 x46 u64 A1p c1p p1 (IntKind.i64.wrap (x47 + 1)) (hH.rd 0 rfl) (HRp1.mono hH.bs.mono) (Hp.own (Bs.refl s58)) _ hu65) ?_
        rintro _ s65 ⟨A66, c66, rfl, hD⟩
        replace hH := hH.back0T hD
        clear hD
        dsimp only [addC, setC, rmC, selC, getC] at hH
        try dsimp only [putL, setL, evL, getL]
        refine HL_cons rfl ?_
        refine o_assign ?_
        try dsimp only [putL, setL, evL, getL]
        refine HL_nil ?_
        refine hK62 _ _ ?_
        refine HT_region ?_
        refine HL_cons rfl ?_
        refine o_bin rfl rfl rfl ?_
        try dsimp only [putL, setL, evL, getL]
        refine HL_cons rfl ?_
        refine o_move ?_
        try dsimp only [putL, setL, evL, getL]
        refine HL_nil ?_
        exact hK58 _ _ ⟨kf, Nat.lt_succ_self kf, u65, A66, c66, IntKind.i64.wrap (x47 + 1), H, rfl, hH.sel [1] (by decide)⟩
      · replace H := iteF hb61 H
        refine HT_false (congrArg Value.bool hb61) ?_
        refine HT_exit ?_
        exact hK7 _ _ ⟨x46, A46, c46, H, rfl, hH⟩
  · rintro l' s67 ⟨x37, A37, c37, H, hl, hH⟩
    generalize getL l' 6 = j6, getL l' 7 = j7, getL l' 14 = j14, getL l' 15 = j15, getL l' 16 = j16, getL l' 17 = j17, getL l' 18 = j18, getL l' 19 = j19, getL l' 20 = j20, getL l' 21 = j21, getL l' 22 = j22, getL l' 23 = j23, getL l' 24 = j24, getL l' 25 = j25 at hl
    subst hl
    replace H := hG7 _ H
    try dsimp only at H
    refine hK5 _ _ ?_
    refine HT_seq_k ?_
    intro K68 hK68
    refine HT_region ?_
    refine HL_cons rfl ?_
    refine o_move ?_
    try dsimp only [putL, setL, evL, getL]
    refine HL_cons rfl ?_
    refine o_move ?_
    try dsimp only [putL, setL, evL, getL]
    refine HL_cons rfl ?_
    refine o_len rfl Try.underlying24 ?_
    try dsimp only [putL, setL, evL, getL]
    replace H := headE H
    obtain ⟨u69, hu69, H⟩ := H
    obtain ⟨b69, o69, cs69, hA69, hr69, hh69, hel69⟩ := hH.elo 0 rfl hu69
    obtain rfl := hr69
    refine HL_cons rfl ?_
    refine hel69 s67 rfl rfl Try.underlying24 tI3 ?_
    try dsimp only [putL, setL, evL, getL]
    refine HL_cons rfl ?_
    refine o_load' rfl Try.underlying3 rfl (hh69 0 _ rfl) ?_
    try dsimp only [putL, setL, evL, getL]
    refine HL_cons rfl ?_
    refine o_assign ?_
    try dsimp only [putL, setL, evL, getL]
    refine HL_nil ?_
    refine hK68 _ _ ?_
    refine HT_ret ?_
    exact hQr _ _ [.int .i64 u69] ⟨rfl, trivial⟩ (retH (fun r => spec_l15Distance.post sb s F0 r _ _) (show some _ = some r from H) ⟨rfl, hH.sel [] (by decide)⟩)
def spec_DistanceOf.f (p0 : List (Int)) (p1 : List (Int)) : Option (Int × Bool) := ((spec_l15List.f p0).bind fun u20 => if (!u20) = true then (some true) else ((spec_l15List.f p1).bind fun u22 => some (!u22))).bind fun (o : Bool) => match o with | x19 => (if x19 = true then (some (0, false)) else ((spec_l15Distance.f p0 p1).bind fun u27 => some (u27, true)))
def spec_DistanceOf.post (sb s : St) (F0 : Fp) (r : Int × Bool) : Value → St → Prop := fun v s' => v = .tuple #[.int .i64 r.1, .bool r.2] ∧ Hp sb s F0 s' []
set_option maxRecDepth 100000 in
set_option maxHeartbeats 4000000 in
theorem spec_DistanceOf.ok (sb s : St) (F0 : Fp) (A0p : Option Addr) (c0p : Nat) (p0 : List (Int)) (A1p : Option Addr) (c1p : Nat) (p1 : List (Int)) (HRp0 : Rd KI sb A0p c0p p0) (HRp1 : Rd KI sb A1p c1p p1) (hH : Hp sb s F0 s []) (r : Int × Bool) (H : spec_DistanceOf.f p0 p1 = some r) : GCall Try.prog 17 #[.slice A0p p0.length c0p, .slice A1p p1.length c1p] s (spec_DistanceOf.post sb s F0 r) := by
  refine GCall_ofk [.tmp 4, .tmp 5] [.slice A0p p0.length c0p, .slice A1p p1.length c1p, undef, undef, undef, undef, undef, undef, undef, undef, undef, undef, undef, undef, undef, undef, undef] Try.func17 rfl rfl rfl ?_
  intro w Q hQr hQn hQp
  replace H := topE H
  unfold spec_DistanceOf.f at H
  refine HT_seq_k ?_
  intro K1 hK1
  refine HT_region ?_
  refine HL_cons rfl ?_
  refine o_assign ?_
  try dsimp only [putL, setL, evL, getL]
  refine HL_cons rfl ?_
  refine o_assign ?_
  try dsimp only [putL, setL, evL, getL]
  refine HL_nil ?_
  refine hK1 _ _ ?_
  refine HT_seq_k ?_
  intro K14 hK14
  refine joinH H fun G15 hG15 H => ?_
  refine HT_joinK (fun l' s' => ∃ (x19 : Bool), G15 x19 = some r ∧ l' = [.slice A0p p0.length c0p, .slice A1p p1.length c1p, undef, undef, .int .i64 0, .bool false, getL l' 6, getL l' 7, getL l' 8, getL l' 9, getL l' 10, getL l' 11, getL l' 12, .bool x19, undef, undef, undef] ∧ Hp sb s F0 s' []) ?_ ?_
  · intro K15 hK15
    refine HT_region ?_
    refine HL_cons rfl ?_
    refine o_move ?_
    try dsimp only [putL, setL, evL, getL]
    replace H := headE H
    obtain ⟨u20, hu20, H⟩ := H
    refine HL_cons rfl ?_
    refine o_call (args := #[.slice A0p p0.length c0p]) Try.func101 rfl rfl rfl (spec_l15List.ok sb s no A0p c0p p0 HRp0 (Hp.own hH.bs) _ hu20) ?_
    rintro _ s20 ⟨rfl, hD⟩
    replace hH := hH.back0 hD (Up.refl _ _ _)
    clear hD
    dsimp only [addC, setC, rmC, selC, getC] at hH
    try dsimp only [putL, setL, evL, getL]
    refine HL_cons rfl ?_
    refine o_not rfl ?_
    try dsimp only [putL, setL, evL, getL]
    refine HL_cons rfl ?_
    refine o_move ?_
    try dsimp only [putL, setL, evL, getL]
    rcases Bool.eq_false_or_eq_true (!u20) with hb21 | hb21
    · replace H := iteT hb21 H
      refine HL_skip ?_ ?_
      · exact wantF (j := 3) (b := false) (t := 9) (c := !u20) rfl rfl rfl rfl hb21
      try dsimp only [putL, setL, evL, getL]
      refine HL_skip ?_ ?_
      · exact wantF (j := 3) (b := false) (t := 9) (c := !u20) rfl rfl rfl rfl hb21
      try dsimp only [putL, setL, evL, getL]
      refine HL_skip ?_ ?_
      · exact wantF (j := 3) (b := false) (t := 9) (c := !u20) rfl rfl rfl rfl hb21
      try dsimp only [putL, setL, evL, getL]
      refine HL_cons rfl ?_
      refine o_pickT rfl hb21 ?_
      try dsimp only [putL, setL, evL, getL]
      refine HL_nil ?_
      exact hK15 _ _ ⟨true, H, rfl, hH⟩
    · replace H := iteF hb21 H
      refine HL_want ?_ ?_
      · exact wantT (j := 3) (b := false) (t := 9) (c := !u20) rfl rfl rfl rfl hb21
      refine o_move ?_
      try dsimp only [putL, setL, evL, getL]
      replace H := headE H
      obtain ⟨u22, hu22, H⟩ := H
      refine HL_want ?_ ?_
      · exact wantT (j := 3) (b := false) (t := 9) (c := !u20) rfl rfl rfl rfl hb21
      refine o_call (args := #[.slice A1p p1.length c1p]) Try.func101 rfl rfl rfl (spec_l15List.ok sb s20 no A1p c1p p1 HRp1 (Hp.own hH.bs) _ hu22) ?_
      rintro _ s22 ⟨rfl, hD⟩
      replace hH := hH.back0 hD (Up.refl _ _ _)
      clear hD
      dsimp only [addC, setC, rmC, selC, getC] at hH
      try dsimp only [putL, setL, evL, getL]
      refine HL_want ?_ ?_
      · exact wantT (j := 3) (b := false) (t := 9) (c := !u20) rfl rfl rfl rfl hb21
      refine o_not rfl ?_
      try dsimp only [putL, setL, evL, getL]
      refine HL_cons rfl ?_
      refine o_pickF rfl hb21 ?_
      try dsimp only [putL, setL, evL, getL]
      refine HL_nil ?_
      exact hK15 _ _ ⟨!u22, H, rfl, hH⟩
  · rintro l' s23 ⟨x19, H, hl, hH⟩
    generalize getL l' 6 = j6, getL l' 7 = j7, getL l' 8 = j8, getL l' 9 = j9, getL l' 10 = j10, getL l' 11 = j11, getL l' 12 = j12 at hl
    subst hl
    replace H := hG15 _ H
    try dsimp only at H
    rcases Bool.eq_false_or_eq_true x19 with hb24 | hb24
    · replace H := iteT hb24 H
      refine HT_true (congrArg Value.bool hb24) ?_
      refine HT_seq_k ?_
      intro K25 hK25
      refine HT_region ?_
      refine HL_cons rfl ?_
      refine o_assign ?_
      try dsimp only [putL, setL, evL, getL]
      refine HL_cons rfl ?_
      refine o_assign ?_
      try dsimp only [putL, setL, evL, getL]
      refine HL_nil ?_
      refine hK25 _ _ ?_
      refine HT_ret ?_
      exact hQr _ _ [.int .i64 0, .bool false] ⟨rfl, rfl, trivial⟩ (retH (fun r => spec_DistanceOf.post sb s F0 r _ _) (show some _ = some r from H) ⟨rfl, hH⟩)
    · replace H := iteF hb24 H
      refine HT_false (congrArg Value.bool hb24) ?_
      refine HT_skip ?_
      refine hK14 _ _ ?_
      refine HT_seq_k ?_
      intro K26 hK26
      refine HT_region ?_
      refine HL_cons rfl ?_
      refine o_move ?_
      try dsimp only [putL, setL, evL, getL]
      refine HL_cons rfl ?_
      refine o_move ?_
      try dsimp only [putL, setL, evL, getL]
      replace H := headE H
      obtain ⟨u27, hu27, H⟩ := H
      refine HL_cons rfl ?_
      refine o_call (args := #[.slice A0p p0.length c0p, .slice A1p p1.length c1p]) Try.func102 rfl rfl rfl (spec_l15Distance.ok sb s23 no A0p c0p p0 A1p c1p p1 HRp0 HRp1 (Hp.own hH.bs) _ hu27) ?_
      rintro _ s27 ⟨rfl, hD⟩
      replace hH := hH.back0 hD (Up.refl _ _ _)
      clear hD
      dsimp only [addC, setC, rmC, selC, getC] at hH
      try dsimp only [putL, setL, evL, getL]
      refine HL_cons rfl ?_
      refine o_assign ?_
      try dsimp only [putL, setL, evL, getL]
      refine HL_cons rfl ?_
      refine o_assign ?_
      try dsimp only [putL, setL, evL, getL]
      refine HL_nil ?_
      refine hK26 _ _ ?_
      refine HT_ret ?_
      exact hQr _ _ [.int .i64 u27, .bool true] ⟨rfl, rfl, trivial⟩ (retH (fun r => spec_DistanceOf.post sb s F0 r _ _) (show some _ = some r from H) ⟨rfl, hH⟩)
def laws_sameInts.l1 (p0 : List (Int)) (p1 : List (Int)) : Nat → Int → Option (Lo Unit Bool)
  | 0, _ => none
  | kf + 1, x52 => if (decide (x52 < (p0.length : Int))) = true then ((rd? p0 x52).bind fun u71 => (rd? p1 x52).bind fun u72 => if (u71 != u72) = true then ((some false).bind fun z => some (Lo.ret z)) else (laws_sameInts.l1 p0 p1 kf (IntKind.i64.wrap (x52 + 1)))) else (some (Lo.go ()))
def laws_sameInts.f (p0 : List (Int)) (p1 : List (Int)) : Option Bool := if ((p0.length : Int) != (p1.length : Int)) = true then (some false) else ((laws_sameInts.l1 p0 p1 ((((p0.length : Int)) - (0)).toNat + 2) 0).bind fun (o : Lo Unit Bool) => match o with | .go () => (some true) | .ret z => some z)
def laws_sameInts.post (sb s : St) (F0 : Fp) (r : Bool) : Value → St → Prop := fun v s' => v = .bool r ∧ Hp sb s F0 s' []
set_option maxRecDepth 100000 in
set_option maxHeartbeats 4000000 in
theorem laws_sameInts.ok (sb s : St) (F0 : Fp) (A0p : Option Addr) (c0p : Nat) (p0 : List (Int)) (A1p : Option Addr) (c1p : Nat) (p1 : List (Int)) (HRp0 : Rd KI sb A0p c0p p0) (HRp1 : Rd KI sb A1p c1p p1) (hH : Hp sb s F0 s []) (r : Bool) (H : laws_sameInts.f p0 p1 = some r) : GCall Try.prog 18 #[.slice A0p p0.length c0p, .slice A1p p1.length c1p] s (laws_sameInts.post sb s F0 r) := by
  refine GCall_ofk [.tmp 4] [.slice A0p p0.length c0p, .slice A1p p1.length c1p, undef, undef, undef, undef, undef, undef, undef, undef, undef, undef, undef, undef, undef, undef, undef, undef, undef, undef, undef, undef, undef, undef, undef, undef] Try.func18 rfl rfl rfl ?_
  intro w Q hQr hQn hQp
  replace H := topE H
  unfold laws_sameInts.f at H
  refine HT_seq_k ?_
  intro K1 hK1
  refine HT_region ?_
  refine HL_cons rfl ?_
  refine o_assign ?_
  try dsimp only [putL, setL, evL, getL]
  refine HL_nil ?_
  refine hK1 _ _ ?_
  refine HT_seq_k ?_
  intro K2 hK2
  refine HT_seq_k ?_
  intro K3 hK3
  refine HT_region ?_
  refine HL_cons rfl ?_
  refine o_move ?_
  try dsimp only [putL, setL, evL, getL]
  refine HL_cons rfl ?_
  refine o_len rfl Try.underlying24 ?_
  try dsimp only [putL, setL, evL, getL]
  refine HL_cons rfl ?_
  refine o_move ?_
  try dsimp only [putL, setL, evL, getL]
  refine HL_cons rfl ?_
  refine o_len rfl Try.underlying24 ?_
  try dsimp only [putL, setL, evL, getL]
  refine HL_cons rfl ?_
  refine o_bin rfl rfl rfl ?_
  try dsimp only [putL, setL, evL, getL]
  refine HL_nil ?_
  refine hK3 _ _ ?_
  rcases Bool.eq_false_or_eq_true ((p0.length : Int) != (p1.length : Int)) with hb4 | hb4
  · replace H := iteT hb4 H
    refine HT_true (congrArg Value.bool hb4) ?_
    refine HT_seq_k ?_
    intro K5 hK5
    refine HT_region ?_
    refine HL_cons rfl ?_
    refine o_assign ?_
    try dsimp only [putL, setL, evL, getL]
    refine HL_nil ?_
    refine hK5 _ _ ?_
    refine HT_ret ?_
    exact hQr _ _ [.bool false] ⟨rfl, trivial⟩ (retH (fun r => laws_sameInts.post sb s F0 r _ _) (show some _ = some r from H) ⟨rfl, hH⟩)
  · replace H := iteF hb4 H
    refine HT_false (congrArg Value.bool hb4) ?_
    refine HT_skip ?_
    refine hK2 _ _ ?_
    refine HT_seq_k ?_
    intro K6 hK6
    refine HT_seq_k ?_
    intro K7 hK7
    refine HT_region ?_
    refine HL_cons rfl ?_
    refine o_move ?_
    try dsimp only [putL, setL, evL, getL]
    refine HL_cons rfl ?_
    refine o_len rfl Try.underlying24 ?_
    try dsimp only [putL, setL, evL, getL]
    refine HL_cons rfl ?_
    refine o_move ?_
    try dsimp only [putL, setL, evL, getL]
    refine HL_nil ?_
    refine hK7 _ _ ?_
    refine joinH H fun G8 hG8 H => ?_
    refine HT_toK (fun l' s' => G8 (.go ()) = some r ∧ l' = [.slice A0p p0.length c0p, .slice A1p p1.length c1p, undef, undef, getL l' 4, getL l' 5, .slice A0p p0.length c0p, .int .i64 (p0.length : Int), .slice A1p p1.length c1p, .int .i64 (p1.length : Int), .bool ((p0.length : Int) != (p1.length : Int)), .slice A0p p0.length c0p, .int .i64 (p0.length : Int), getL l' 13, getL l' 14, getL l' 15, getL l' 16, getL l' 17, getL l' 18, getL l' 19, getL l' 20, getL l' 21, getL l' 22, getL l' 23, getL l' 24, getL l' 25] ∧ Hp sb s F0 s' []) ?_ ?_
    · intro K8 hK8
      refine HT_block ?_
      refine HT_loopK (fun kf l' s' => ∃ (x52 : Int), (laws_sameInts.l1 p0 p1 kf x52).bind G8 = some r ∧ l' = [.slice A0p p0.length c0p, .slice A1p p1.length c1p, undef, undef, getL l' 4, getL l' 5, .slice A0p p0.length c0p, .int .i64 (p0.length : Int), .slice A1p p1.length c1p, .int .i64 (p1.length : Int), .bool ((p0.length : Int) != (p1.length : Int)), .slice A0p p0.length c0p, .int .i64 (p0.length : Int), .int .i64 x52, getL l' 14, getL l' 15, getL l' 16, getL l' 17, getL l' 18, getL l' 19, getL l' 20, getL l' 21, getL l' 22, getL l' 23, getL l' 24, getL l' 25] ∧ Hp sb s F0 s' []) ((((p0.length : Int)) - (0)).toNat + 2) ⟨0, H, rfl, hH⟩ ?_
      rintro kf l' s64 ⟨x52, H, hl, hH⟩ K64 hK64
      generalize getL l' 4 = j4, getL l' 5 = j5, getL l' 14 = j14, getL l' 15 = j15, getL l' 16 = j16, getL l' 17 = j17, getL l' 18 = j18, getL l' 19 = j19, getL l' 20 = j20, getL l' 21 = j21, getL l' 22 = j22, getL l' 23 = j23, getL l' 24 = j24, getL l' 25 = j25 at hl
      subst hl
      cases kf with
      | zero => simp [laws_sameInts.l1] at H
      | succ kf =>
        rw [laws_sameInts.l1] at H
        refine HT_seq_k ?_
        intro K65 hK65
        refine HT_region ?_
        refine HL_cons rfl ?_
        refine o_bin rfl rfl rfl ?_
        try dsimp only [putL, setL, evL, getL]
        refine HL_nil ?_
        refine hK65 _ _ ?_
        refine HT_seq_k ?_
        intro K66 hK66
        rcases Bool.eq_false_or_eq_true (decide (x52 < (p0.length : Int))) with hb67 | hb67
        · replace H := iteT hb67 H
          refine HT_true (congrArg Value.bool hb67) ?_
          refine HT_skip ?_
          refine hK66 _ _ ?_
          refine HT_seq_k ?_
          intro K68 hK68
          refine HT_block ?_
          refine HT_seq_k ?_
          intro K69 hK69
          refine HT_region ?_
          refine HL_cons rfl ?_
          refine o_move ?_
          try dsimp only [putL, setL, evL, getL]
          refine HL_cons rfl ?_
          refine o_assign ?_
          try dsimp only [putL, setL, evL, getL]
          refine HL_nil ?_
          refine hK69 _ _ ?_
          refine HT_seq_k ?_
          intro K70 hK70
          refine HX_draw hMix ?_
          refine HX_lim (R := fun _ => True) (k := 0) (fun s' => Gro s64 s') 10 ?_
          have hR := Gro.refl s64
          have hH0 := hH
          refine HK_readP 0 (v := .slice A0p p0.length c0p) rfl (by kernel_rfl) (fun c l s h => hQp c l s h) rfl (fun s' K hK => ?_) rfl rfl (fun _ => hR) ?_
          · refine o_move ?_
            exact hK
          try dsimp only [putL, setL, evL, getL]
          refine HK_readP 1 (v := .int .i64 x52) rfl (by kernel_rfl) (fun c l s h => hQp c l s h) rfl (fun s' K hK => ?_) rfl rfl (fun _ => hR) ?_
          · refine o_move ?_
            exact hK
          try dsimp only [putL, setL, evL, getL]
          replace H := headE H
          obtain ⟨u71, hu71, H⟩ := H
          obtain ⟨b71, o71, cs71, hr71, hh71, hel71⟩ := Rd.elb HRp0 hu71
          obtain rfl := hr71
          refine HK_readP 2 (v := .pointer (some ⟨b71, o71, none⟩)) rfl (by kernel_rfl) (fun c l s h => hQp c l s h) rfl (fun s' K hK => ?_) rfl rfl (fun _ => hR) ?_
          · refine hel71 s' rfl rfl Try.underlying24 tI3 ?_
            exact hK
          try dsimp only [putL, setL, evL, getL]
          refine HK_read 3 (v := .int .i64 u71) rfl (by kernel_rfl) (fun c l s h => hQp c l s h) rfl (fun s' hR' K hK => ?_) rfl rfl hR ?_
          · refine o_load' rfl Try.underlying3 rfl ((hh71 (hH0.bs.mono.trans hR'.mono)) 0 _ rfl) ?_
            exact hK
          try dsimp only [putL, setL, evL, getL]
          refine HK_readP 4 (v := .slice A1p p1.length c1p) rfl (by kernel_rfl) (fun c l s h => hQp c l s h) rfl (fun s' K hK => ?_) rfl rfl (fun _ => hR) ?_
          · refine o_move ?_
            exact hK
          try dsimp only [putL, setL, evL, getL]
          refine HK_readP 5 (v := .int .i64 x52) rfl (by kernel_rfl) (fun c l s h => hQp c l s h) rfl (fun s' K hK => ?_) rfl rfl (fun _ => hR) ?_
          · refine o_move ?_
            exact hK
          try dsimp only [putL, setL, evL, getL]
          replace H := headE H
          obtain ⟨u72, hu72, H⟩ := H
          obtain ⟨b72, o72, cs72, hr72, hh72, hel72⟩ := Rd.elb HRp1 hu72
          obtain rfl := hr72
          refine HK_readP 6 (v := .pointer (some ⟨b72, o72, none⟩)) rfl (by kernel_rfl) (fun c l s h => hQp c l s h) rfl (fun s' K hK => ?_) rfl rfl (fun _ => hR) ?_
          · refine hel72 s' rfl rfl Try.underlying24 tI3 ?_
            exact hK
          try dsimp only [putL, setL, evL, getL]
          refine HK_read 7 (v := .int .i64 u72) rfl (by kernel_rfl) (fun c l s h => hQp c l s h) rfl (fun s' hR' K hK => ?_) rfl rfl hR ?_
          · refine o_load' rfl Try.underlying3 rfl ((hh72 (hH0.bs.mono.trans hR'.mono)) 0 _ rfl) ?_
            exact hK
          try dsimp only [putL, setL, evL, getL]
          refine HK_readP 8 (v := .bool (u71 != u72)) rfl (by kernel_rfl) (fun c l s h => hQp c l s h) rfl (fun s' K hK => ?_) rfl rfl (fun _ => hR) ?_
          · refine o_bin rfl rfl rfl ?_
            exact hK
          try dsimp only [putL, setL, evL, getL]
          refine HK_done (fun _ => hR) (by kernel_rfl) ?_
          refine hK70 _ _ ?_
          rcases Bool.eq_false_or_eq_true (u71 != u72) with hb73 | hb73
          · replace H := iteT hb73 H
            refine HT_true (congrArg Value.bool hb73) ?_
            refine HT_seq_k ?_
            intro K74 hK74
            refine HT_region ?_
            refine HL_cons rfl ?_
            refine o_assign ?_
            try dsimp only [putL, setL, evL, getL]
            refine HL_nil ?_
            refine hK74 _ _ ?_
            refine HT_ret ?_
            replace H := escH (fun z hz => hG8 _ hz) H
            exact hQr _ _ [.bool false] ⟨rfl, trivial⟩ (retH (fun r => laws_sameInts.post sb s F0 r _ _) (show some _ = some r from H) ⟨rfl, hH⟩)
          · replace H := iteF hb73 H
            refine HT_false (congrArg Value.bool hb73) ?_
            refine HT_skip ?_
            refine hK68 _ _ ?_
            refine HT_region ?_
            refine HL_cons rfl ?_
            refine o_bin rfl rfl rfl ?_
            try dsimp only [putL, setL, evL, getL]
            refine HL_cons rfl ?_
            refine o_move ?_
            try dsimp only [putL, setL, evL, getL]
            refine HL_nil ?_
            exact hK64 _ _ ⟨kf, Nat.lt_succ_self kf, IntKind.i64.wrap (x52 + 1), H, rfl, hH⟩
        · replace H := iteF hb67 H
          refine HT_false (congrArg Value.bool hb67) ?_
          refine HT_exit ?_
          exact hK8 _ _ ⟨H, rfl, hH⟩
    · rintro l' s75 ⟨H, hl, hH⟩
      generalize getL l' 4 = j4, getL l' 5 = j5, getL l' 13 = j13, getL l' 14 = j14, getL l' 15 = j15, getL l' 16 = j16, getL l' 17 = j17, getL l' 18 = j18, getL l' 19 = j19, getL l' 20 = j20, getL l' 21 = j21, getL l' 22 = j22, getL l' 23 = j23, getL l' 24 = j24, getL l' 25 = j25 at hl
      subst hl
      replace H := hG8 _ H
      try dsimp only at H
      refine hK6 _ _ ?_
      refine HT_seq_k ?_
      intro K76 hK76
      refine HT_region ?_
      refine HL_cons rfl ?_
      refine o_assign ?_
      try dsimp only [putL, setL, evL, getL]
      refine HL_nil ?_
      refine hK76 _ _ ?_
      refine HT_ret ?_
      exact hQr _ _ [.bool true] ⟨rfl, trivial⟩ (retH (fun r => laws_sameInts.post sb s F0 r _ _) (show some _ = some r from H) ⟨rfl, hH⟩)
def laws_numberOf.l1 (p0 : List (Int)) : Nat → Int → Int → Option Int
  | 0, _, _ => none
  | kf + 1, x40, x41 => if (decide (x41 < (p0.length : Int))) = true then ((rd? p0 x41).bind fun u57 => (rem? (IntKind.i64.wrap ((IntKind.i64.wrap (31 * x40)) + (IntKind.i64.wrap u57))) 1000003).bind fun u58 => laws_numberOf.l1 p0 kf u58 (IntKind.i64.wrap (x41 + 1))) else (some x40)
def laws_numberOf.f (p0 : List (Int)) : Option Int := (laws_numberOf.l1 p0 ((((p0.length : Int)) - (0)).toNat + 2) 0 0).bind fun (o : Int) => match o with | x32 => (some x32)
def laws_numberOf.post (sb s : St) (F0 : Fp) (r : Int) : Value → St → Prop := fun v s' => v = .int .i64 r ∧ Hp sb s F0 s' []
set_option maxRecDepth 100000 in
set_option maxHeartbeats 4000000 in
theorem laws_numberOf.ok (sb s : St) (F0 : Fp) (A0p : Option Addr) (c0p : Nat) (p0 : List (Int)) (HRp0 : Rd (Kd.int .u8) sb A0p c0p p0) (hH : Hp sb s F0 s []) (r : Int) (H : laws_numberOf.f p0 = some r) : GCall Try.prog 30 #[.slice A0p p0.length c0p] s (laws_numberOf.post sb s F0 r) := by
  refine GCall_ofk [.tmp 2] [.slice A0p p0.length c0p, undef, undef, undef, undef, undef, undef, undef, undef, undef, undef, undef, undef, undef, undef, undef, undef, undef, undef, undef] Try.func30 rfl rfl rfl ?_
  intro w Q hQr hQn hQp
  replace H := topE H
  unfold laws_numberOf.f at H
  refine HT_seq_k ?_
  intro K1 hK1
  refine HT_region ?_
  refine HL_cons rfl ?_
  refine o_assign ?_
  try dsimp only [putL, setL, evL, getL]
  refine HL_nil ?_
  refine hK1 _ _ ?_
  refine HT_seq_k ?_
  intro K2 hK2
  refine HT_region ?_
  refine HL_cons rfl ?_
  refine o_assign ?_
  try dsimp only [putL, setL, evL, getL]
  refine HL_nil ?_
  refine hK2 _ _ ?_
  refine HT_seq_k ?_
  intro K3 hK3
  refine HT_seq_k ?_
  intro K4 hK4
  refine HT_region ?_
  refine HL_cons rfl ?_
  refine o_move ?_
  try dsimp only [putL, setL, evL, getL]
  refine HL_cons rfl ?_
  refine o_len rfl Try.underlying22 ?_
  try dsimp only [putL, setL, evL, getL]
  refine HL_cons rfl ?_
  refine o_move ?_
  try dsimp only [putL, setL, evL, getL]
  refine HL_nil ?_
  refine hK4 _ _ ?_
  refine joinH H fun G5 hG5 H => ?_
  refine HT_toK (fun l' s' => ∃ (x32 : Int), G5 x32 = some r ∧ l' = [.slice A0p p0.length c0p, undef, .int .i64 0, .int .i64 x32, undef, getL l' 5, .slice A0p p0.length c0p, .int .i64 (p0.length : Int), getL l' 8, getL l' 9, getL l' 10, getL l' 11, getL l' 12, getL l' 13, getL l' 14, getL l' 15, getL l' 16, getL l' 17, getL l' 18, undef] ∧ Hp sb s F0 s' []) ?_ ?_
  · intro K5 hK5
    refine HT_block ?_
    refine HT_loopK (fun kf l' s' => ∃ (x40 : Int) (x41 : Int), (laws_numberOf.l1 p0 kf x40 x41).bind G5 = some r ∧ l' = [.slice A0p p0.length c0p, undef, .int .i64 0, .int .i64 x40, undef, getL l' 5, .slice A0p p0.length c0p, .int .i64 (p0.length : Int), .int .i64 x41, getL l' 9, getL l' 10, getL l' 11, getL l' 12, getL l' 13, getL l' 14, getL l' 15, getL l' 16, getL l' 17, getL l' 18, undef] ∧ Hp sb s F0 s' []) ((((p0.length : Int)) - (0)).toNat + 2) ⟨0, 0, H, rfl, hH⟩ ?_
    rintro kf l' s51 ⟨x40, x41, H, hl, hH⟩ K51 hK51
    generalize getL l' 5 = j5, getL l' 9 = j9, getL l' 10 = j10, getL l' 11 = j11, getL l' 12 = j12, getL l' 13 = j13, getL l' 14 = j14, getL l' 15 = j15, getL l' 16 = j16, getL l' 17 = j17, getL l' 18 = j18 at hl
    subst hl
    cases kf with
    | zero => simp [laws_numberOf.l1] at H
    | succ kf =>
      rw [laws_numberOf.l1] at H
      refine HT_seq_k ?_
      intro K52 hK52
      refine HT_region ?_
      refine HL_cons rfl ?_
      refine o_bin rfl rfl rfl ?_
      try dsimp only [putL, setL, evL, getL]
      refine HL_nil ?_
      refine hK52 _ _ ?_
      refine HT_seq_k ?_
      intro K53 hK53
      rcases Bool.eq_false_or_eq_true (decide (x41 < (p0.length : Int))) with hb54 | hb54
      · replace H := iteT hb54 H
        refine HT_true (congrArg Value.bool hb54) ?_
        refine HT_skip ?_
        refine hK53 _ _ ?_
        refine HT_seq_k ?_
        intro K55 hK55
        refine HT_block ?_
        refine HT_seq_k ?_
        intro K56 hK56
        refine HT_region ?_
        replace H := headE H
        obtain ⟨u57, hu57, H⟩ := H
        obtain ⟨b57, o57, cs57, hr57, hh57, hel57⟩ := Rd.elb HRp0 hu57
        obtain rfl := hr57
        refine HL_cons rfl ?_
        refine hel57 s51 rfl rfl Try.underlying22 tI5 ?_
        try dsimp only [putL, setL, evL, getL]
        refine HL_cons rfl ?_
        refine o_load' rfl Try.underlying5 rfl ((hh57 hH.bs.mono) 0 _ rfl) ?_
        try dsimp only [putL, setL, evL, getL]
        refine HL_cons rfl ?_
        refine o_assign ?_
        try dsimp only [putL, setL, evL, getL]
        refine HL_nil ?_
        refine hK56 _ _ ?_
        refine HT_region ?_
        refine HL_cons rfl ?_
        refine o_move ?_
        try dsimp only [putL, setL, evL, getL]
        refine HL_cons rfl ?_
        refine o_bin rfl rfl rfl ?_
        try dsimp only [putL, setL, evL, getL]
        refine HL_cons rfl ?_
        refine o_move ?_
        try dsimp only [putL, setL, evL, getL]
        refine HL_cons rfl ?_
        refine o_conv rfl Try.underlying5 Try.underlying3 ?_
        try dsimp only [putL, setL, evL, getL]
        refine HL_cons rfl ?_
        refine o_bin rfl rfl rfl ?_
        try dsimp only [putL, setL, evL, getL]
        replace H := headE H
        obtain ⟨u58, hu58, H⟩ := H
        refine HL_cons rfl ?_
        refine o_rem' rfl rfl hu58 ?_
        try dsimp only [putL, setL, evL, getL]
        refine HL_cons rfl ?_
        refine o_assign ?_
        try dsimp only [putL, setL, evL, getL]
        refine HL_nil ?_
        refine hK55 _ _ ?_
        refine HT_region ?_
        refine HL_cons rfl ?_
        refine o_bin rfl rfl rfl ?_
        try dsimp only [putL, setL, evL, getL]
        refine HL_cons rfl ?_
        refine o_move ?_
        try dsimp only [putL, setL, evL, getL]
        refine HL_nil ?_
        exact hK51 _ _ ⟨kf, Nat.lt_succ_self kf, u58, IntKind.i64.wrap (x41 + 1), H, rfl, hH⟩
      · replace H := iteF hb54 H
        refine HT_false (congrArg Value.bool hb54) ?_
        refine HT_exit ?_
        exact hK5 _ _ ⟨x40, H, rfl, hH⟩
  · rintro l' s59 ⟨x32, H, hl, hH⟩
    generalize getL l' 5 = j5, getL l' 8 = j8, getL l' 9 = j9, getL l' 10 = j10, getL l' 11 = j11, getL l' 12 = j12, getL l' 13 = j13, getL l' 14 = j14, getL l' 15 = j15, getL l' 16 = j16, getL l' 17 = j17, getL l' 18 = j18 at hl
    subst hl
    replace H := hG5 _ H
    try dsimp only at H
    refine hK3 _ _ ?_
    refine HT_seq_k ?_
    intro K60 hK60
    refine HT_region ?_
    refine HL_cons rfl ?_
    refine o_move ?_
    try dsimp only [putL, setL, evL, getL]
    refine HL_cons rfl ?_
    refine o_assign ?_
    try dsimp only [putL, setL, evL, getL]
    refine HL_nil ?_
    refine hK60 _ _ ?_
    refine HT_ret ?_
    exact hQr _ _ [.int .i64 x32] ⟨rfl, trivial⟩ (retH (fun r => laws_numberOf.post sb s F0 r _ _) (show some _ = some r from H) ⟨rfl, hH⟩)
def laws_wordOf.l1 : Nat → Int → (List (Int)) → Int → Option (List (Int))
  | 0, _, _, _ => none
  | kf + 1, x63, x64, x65 => if (decide (x65 > 0)) = true then ((shrK? .u64 (IntKind.u64.wrap ((IntKind.u64.wrap (x63 * 6364136223846793005)) + 1442695040888963407)) 40).bind fun u87 => (rem? u87 6).bind fun u88 => (rd? [97, 98, 97, 99, 65, 12354] u88).bind fun u89 => (app? 17592186044416 x64 [u89]).bind fun x91 => laws_wordOf.l1 kf (IntKind.u64.wrap ((IntKind.u64.wrap (x63 * 6364136223846793005)) + 1442695040888963407)) x91 (IntKind.u64.wrap (x65 - 1))) else (some x64)
def laws_wordOf.f (p0 : List (Int)) : Option (List (Int)) := (laws_numberOf.f p0).bind fun u3 => (rem? (IntKind.u64.wrap ((IntKind.u64.wrap u3) + 5)) 7).bind fun u7 => (laws_wordOf.l1 (((u7) - (0)).toNat + 2) (IntKind.u64.wrap ((IntKind.u64.wrap u3) + 5)) [] u7).bind fun (o : (List (Int))) => match o with | x50 => (some x50)
def laws_wordOf.post (sb s : St) (F0 : Fp) (r : (List (Int))) : Value → St → Prop := fun v s' => ∃ (A0 : Option Addr) (c0 : Nat), v = .slice A0 r.length c0 ∧ Hp sb s F0 s' [Ck.ol OI 3 A0 c0 r]
set_option maxRecDepth 100000 in
set_option maxHeartbeats 4000000 in
theorem laws_wordOf.ok (sb s : St) (F0 : Fp) (A0p : Option Addr) (c0p : Nat) (p0 : List (Int)) (HRp0 : Rd (Kd.int .u8) sb A0p c0p p0) (hH : Hp sb s F0 s []) (r : (List (Int))) (H : laws_wordOf.f p0 = some r) : GCall Try.prog 19 #[.slice A0p p0.length c0p] s (laws_wordOf.post sb s F0 r) := by
  refine GCall_ofk [.tmp 2] [.slice A0p p0.length c0p, undef, undef, undef, undef, undef, undef, undef, undef, undef, undef, undef, undef, undef, undef, undef, undef, undef, undef, undef, undef, undef, undef, undef, undef, undef, undef, undef, undef] Try.func19 rfl rfl rfl ?_
  intro w Q hQr hQn hQp
  replace H := topE H
  unfold laws_wordOf.f at H
  refine HT_seq_k ?_
  intro K1 hK1
  refine HT_region ?_
  refine HL_cons rfl ?_
  refine o_assign ?_
  try dsimp only [putL, setL, evL, getL]
  refine HL_nil ?_
  refine hK1 _ _ ?_
  refine HT_seq_k ?_
  intro K2 hK2
  refine HT_region ?_
  refine HL_cons rfl ?_
  refine o_move ?_
  try dsimp only [putL, setL, evL, getL]
  replace H := headE H
  obtain ⟨u3, hu3, H⟩ := H
  refine HL_cons rfl ?_
  refine o_call (args := #[.slice A0p p0.length c0p]) Try.func30 rfl rfl rfl (laws_numberOf.ok sb s no A0p c0p p0 HRp0 (Hp.own hH.bs) _ hu3) ?_
  rintro _ s3 ⟨rfl, hD⟩
  replace hH := hH.back0 hD (Up.refl _ _ _)
  clear hD
  dsimp only [addC, setC, rmC, selC, getC] at hH
  try dsimp only [putL, setL, evL, getL]
  refine HL_cons rfl ?_
  refine o_conv rfl Try.underlying3 Try.underlying111 ?_
  try dsimp only [putL, setL, evL, getL]
  refine HL_cons rfl ?_
  refine o_bin rfl rfl rfl ?_
  try dsimp only [putL, setL, evL, getL]
  refine HL_cons rfl ?_
  refine o_assign ?_
  try dsimp only [putL, setL, evL, getL]
  refine HL_nil ?_
  refine hK2 _ _ ?_
  refine HT_seq_k ?_
  intro K4 hK4
  refine HT_region ?_
  refine HL_cons rfl ?_
  refine o_assign ?_
  try dsimp only [putL, setL, evL, getL]
  refine HL_nil ?_
  refine hK4 _ _ ?_
  refine HT_seq_k ?_
  intro K5 hK5
  refine HT_seq_k ?_
  intro K6 hK6
  refine HT_region ?_
  refine HL_cons rfl ?_
  refine o_move ?_
  try dsimp only [putL, setL, evL, getL]
  replace H := headE H
  obtain ⟨u7, hu7, H⟩ := H
  refine HL_cons rfl ?_
  refine o_rem' rfl rfl hu7 ?_
  try dsimp only [putL, setL, evL, getL]
  refine HL_cons rfl ?_
  refine o_assign ?_
  try dsimp only [putL, setL, evL, getL]
  refine HL_nil ?_
  refine hK6 _ _ ?_
  refine joinH H fun G8 hG8 H => ?_
  refine HT_toK (fun l' s' => ∃ (x50 : List (Int)) (A50 : Option Addr) (c50 : Nat), G8 x50 = some r ∧ l' = [.slice A0p p0.length c0p, undef, .slice none 0 0, getL l' 3, .slice A50 x50.length c50, getL l' 5, .slice A0p p0.length c0p, .int .i64 u3, .int .u64 (IntKind.u64.wrap u3), .int .u64 (IntKind.u64.wrap ((IntKind.u64.wrap u3) + 5)), .int .u64 (IntKind.u64.wrap ((IntKind.u64.wrap u3) + 5)), .int .u64 u7, getL l' 12, getL l' 13, getL l' 14, getL l' 15, getL l' 16, getL l' 17, getL l' 18, getL l' 19, getL l' 20, getL l' 21, getL l' 22, getL l' 23, getL l' 24, getL l' 25, getL l' 26, getL l' 27, undef] ∧ Hp sb s F0 s' [Ck.ol OI 3 A50 c50 x50]) ?_ ?_
  · intro K8 hK8
    refine HT_block ?_
    refine HT_loopK (fun kf l' s' => ∃ (x63 : Int) (x64 : List (Int)) (A64 : Option Addr) (c64 : Nat) (x65 : Int), (laws_wordOf.l1 kf x63 x64 x65).bind G8 = some r ∧ l' = [.slice A0p p0.length c0p, undef, .slice none 0 0, .int .u64 x63, .slice A64 x64.length c64, .int .u64 x65, .slice A0p p0.length c0p, .int .i64 u3, .int .u64 (IntKind.u64.wrap u3), .int .u64 (IntKind.u64.wrap ((IntKind.u64.wrap u3) + 5)), .int .u64 (IntKind.u64.wrap ((IntKind.u64.wrap u3) + 5)), .int .u64 u7, getL l' 12, getL l' 13, getL l' 14, getL l' 15, getL l' 16, getL l' 17, getL l' 18, getL l' 19, getL l' 20, getL l' 21, getL l' 22, getL l' 23, getL l' 24, getL l' 25, getL l' 26, getL l' 27, undef] ∧ Hp sb s F0 s' [Ck.ol OI 3 A64 c64 x64]) (((u7) - (0)).toNat + 2) ⟨IntKind.u64.wrap ((IntKind.u64.wrap u3) + 5), [], none, 0, u7, H, rfl, (hH.nil (K := KI) OI 3)⟩ ?_
    rintro kf l' s80 ⟨x63, x64, A64, c64, x65, H, hl, hH⟩ K80 hK80
    generalize getL l' 12 = j12, getL l' 13 = j13, getL l' 14 = j14, getL l' 15 = j15, getL l' 16 = j16, getL l' 17 = j17, getL l' 18 = j18, getL l' 19 = j19, getL l' 20 = j20, getL l' 21 = j21, getL l' 22 = j22, getL l' 23 = j23, getL l' 24 = j24, getL l' 25 = j25, getL l' 26 = j26, getL l' 27 = j27 at hl
    subst hl
    cases kf with
    | zero => simp [laws_wordOf.l1] at H
    | succ kf =>
      rw [laws_wordOf.l1] at H
      refine HT_seq_k ?_
      intro K81 hK81
      refine HT_seq_k ?_
      intro K82 hK82
      refine HT_region ?_
      refine HL_cons rfl ?_
      refine o_move ?_
      try dsimp only [putL, setL, evL, getL]
      refine HL_cons rfl ?_
      refine o_bin rfl rfl rfl ?_
      try dsimp only [putL, setL, evL, getL]
      refine HL_nil ?_
      refine hK82 _ _ ?_
      rcases Bool.eq_false_or_eq_true (decide (x65 > 0)) with hb83 | hb83
      · replace H := iteT hb83 H
        refine HT_true (congrArg Value.bool hb83) ?_
        refine HT_skip ?_
        refine hK81 _ _ ?_
        refine HT_seq_k ?_
        intro K84 hK84
        refine HT_block ?_
        refine HT_seq_k ?_
        intro K85 hK85
        refine HT_region ?_
        refine HL_cons rfl ?_
        refine o_move ?_
        try dsimp only [putL, setL, evL, getL]
        refine HL_cons rfl ?_
        refine o_bin rfl rfl rfl ?_
        try dsimp only [putL, setL, evL, getL]
        refine HL_cons rfl ?_
        refine o_bin rfl rfl rfl ?_
        try dsimp only [putL, setL, evL, getL]
        refine HL_cons rfl ?_
        refine o_assign ?_
        try dsimp only [putL, setL, evL, getL]
        refine HL_nil ?_
        refine hK85 _ _ ?_
        refine HT_region ?_
        refine HL_cons rfl ?_
        refine o_move ?_
        try dsimp only [putL, setL, evL, getL]
        refine HL_cons rfl ?_
        refine o_litF (K := KI) (O := OI) (ca := #[.int .i64 97, .int .i64 98, .int .i64 97, .int .i64 99, .int .i64 65, .int .i64 12354]) [[.int .i64 97], [.int .i64 98], [.int .i64 97], [.int .i64 99], [.int .i64 65], [.int .i64 12354]] [97, 98, 97, 99, 65, 12354] hH Try.underlying24 tI3 rfl (by decide) rfl rfl (by kernel_rfl) rfl ⟨rfl, Ent.own (Ent.flat rfl), rfl, Ent.own (Ent.flat rfl), rfl, Ent.own (Ent.flat rfl), rfl, Ent.own (Ent.flat rfl), rfl, Ent.own (Ent.flat rfl), rfl, Ent.own (Ent.flat rfl), trivial⟩ ?_
        intro A86 s86 hH' hG
        replace hH : Hp sb s F0 s86 [Ck.ol OI 3 A64 c64 x64, Ck.ol OI 3 A86 6 [97, 98, 97, 99, 65, 12354]] := hH'
        clear hH' hG
        try dsimp only [putL, setL, evL, getL]
        refine HL_cons rfl ?_
        refine o_move ?_
        try dsimp only [putL, setL, evL, getL]
        replace H := headE H
        obtain ⟨u87, hu87, H⟩ := H
        refine HL_cons rfl ?_
        refine o_shrK rfl rfl hu87 ?_
        try dsimp only [putL, setL, evL, getL]
        replace H := headE H
        obtain ⟨u88, hu88, H⟩ := H
        refine HL_cons rfl ?_
        refine o_rem' rfl rfl hu88 ?_
        try dsimp only [putL, setL, evL, getL]
        replace H := headE H
        obtain ⟨u89, hu89, H⟩ := H
        obtain ⟨b89, o89, cs89, hA89, hr89, hh89, hel89⟩ := hH.elo 1 rfl hu89
        obtain rfl := hr89
        refine HL_cons rfl ?_
        refine hel89 s86 rfl rfl Try.underlying24 tI3 ?_
        try dsimp only [putL, setL, evL, getL]
        refine HL_cons rfl ?_
        refine o_load' rfl Try.underlying3 rfl (hh89 0 _ rfl) ?_
        try dsimp only [putL, setL, evL, getL]
        refine HL_cons rfl ?_
        refine o_litF (K := KI) (O := OI) (ca := #[.int .i64 u89]) [[.int .i64 u89]] [u89] hH Try.underlying24 tI3 rfl (by decide) rfl rfl (by kernel_rfl) rfl ⟨rfl, Ent.own (Ent.flat rfl), trivial⟩ ?_
        intro A90 s90 hH' hG
        replace hH : Hp sb s F0 s90 [Ck.ol OI 3 A64 c64 x64, Ck.ol OI 3 A86 6 [97, 98, 97, 99, 65, 12354], Ck.ol OI 3 A90 1 [u89]] := hH'
        clear hH' hG
        try dsimp only [putL, setL, evL, getL]
        replace H := headE H
        obtain ⟨x91, hx91, H⟩ := H
        refine HL_cons rfl ?_
        refine o_appF (K := KI) (n := 17592186044416) (A := A64) (c := c64) (xs := x64) (ys := [u89]) (B := A90) (c2 := 1) hH 0 rfl rfl rfl rfl Try.underlying24 tI3 rfl (by decide) (by decide) (by decide) (Src.flat (hH.rd 2 rfl)) hx91 ?_
        intro A91 c91 s91 hH'
        replace hH : Hp sb s F0 s91 [Ck.ol OI 3 A91 c91 x91, Ck.ol OI 3 A86 6 [97, 98, 97, 99, 65, 12354], Ck.ol OI 3 A90 1 [u89]] := hH'
        clear hH'
        try dsimp only [putL, setL, evL, getL]
        refine HL_cons rfl ?_
        refine o_assign ?_
        try dsimp only [putL, setL, evL, getL]
        refine HL_nil ?_
        refine hK84 _ _ ?_
        refine HT_region ?_
        refine HL_cons rfl ?_
        refine o_move ?_
        try dsimp only [putL, setL, evL, getL]
        refine HL_cons rfl ?_
        refine o_bin rfl rfl rfl ?_
        try dsimp only [putL, setL, evL, getL]
        refine HL_cons rfl ?_
        refine o_assign ?_
        try dsimp only [putL, setL, evL, getL]
        refine HL_nil ?_
        exact hK80 _ _ ⟨kf, Nat.lt_succ_self kf, IntKind.u64.wrap ((IntKind.u64.wrap (x63 * 6364136223846793005)) + 1442695040888963407), x91, A91, c91, IntKind.u64.wrap (x65 - 1), H, rfl, hH.sel [0] (by decide)⟩
      · replace H := iteF hb83 H
        refine HT_false (congrArg Value.bool hb83) ?_
        refine HT_exit ?_
        exact hK8 _ _ ⟨x64, A64, c64, H, rfl, hH⟩
  · rintro l' s92 ⟨x50, A50, c50, H, hl, hH⟩
    generalize getL l' 3 = j3, getL l' 5 = j5, getL l' 12 = j12, getL l' 13 = j13, getL l' 14 = j14, getL l' 15 = j15, getL l' 16 = j16, getL l' 17 = j17, getL l' 18 = j18, getL l' 19 = j19, getL l' 20 = j20, getL l' 21 = j21, getL l' 22 = j22, getL l' 23 = j23, getL l' 24 = j24, getL l' 25 = j25, getL l' 26 = j26, getL l' 27 = j27 at hl
    subst hl
    replace H := hG8 _ H
    try dsimp only at H
    refine hK5 _ _ ?_
    refine HT_seq_k ?_
    intro K93 hK93
    refine HT_region ?_
    refine HL_cons rfl ?_
    refine o_move ?_
    try dsimp only [putL, setL, evL, getL]
    refine HL_cons rfl ?_
    refine o_assign ?_
    try dsimp only [putL, setL, evL, getL]
    refine HL_nil ?_
    refine hK93 _ _ ?_
    refine HT_ret ?_
    exact hQr _ _ [.slice A50 x50.length c50] ⟨rfl, trivial⟩ (retH (fun r => laws_wordOf.post sb s F0 r _ _) (show some _ = some r from H) ⟨A50, c50, rfl, hH⟩)
def spec_DrawNearEnds.f (p0 : List (Int)) : Option ((List (Int)) × (List (Int)) × Int) := (spec_l1Cur_small.f p0 0 0 4).bind fun u5 => (spec_l1Cur_small.f p0 u5.2.1 u5.2.2 12).bind fun u7 => (spec_l1Cur_among.f p0 u7.2.1 u7.2.2 [0, 1, 2, 3, -1, 60, 61]).bind fun u10 => some (u5.1, u7.1, u10.1)
def spec_DrawNearEnds.post (sb s : St) (F0 : Fp) (r : (List (Int)) × (List (Int)) × Int) : Value → St → Prop := fun v s' => ∃ (A0 : Option Addr) (c0 : Nat) (A1 : Option Addr) (c1 : Nat), v = .tuple #[.slice A0 r.1.length c0, .slice A1 r.2.1.length c1, .int .i64 r.2.2] ∧ Hp sb s F0 s' [Ck.ol OI 3 A0 c0 r.1, Ck.ol OI 3 A1 c1 r.2.1]
set_option maxRecDepth 100000 in
set_option maxHeartbeats 4000000 in
theorem spec_DrawNearEnds.ok (sb s : St) (F0 : Fp) (A0p : Option Addr) (c0p : Nat) (p0 : List (Int)) (HRp0 : Rd (Kd.int .u8) sb A0p c0p p0) (hH : Hp sb s F0 s []) (r : (List (Int)) × (List (Int)) × Int) (H : spec_DrawNearEnds.f p0 = some r) : GCall Try.prog 20 #[.slice A0p p0.length c0p] s (spec_DrawNearEnds.post sb s F0 r) := by
  refine GCall_ofk [.tmp 2, .tmp 3, .tmp 4] [.slice A0p p0.length c0p, undef, undef, undef, undef, undef, undef, undef, undef, undef, undef, undef, undef, undef, undef, undef] Try.func20 rfl rfl rfl ?_
  intro w Q hQr hQn hQp
  replace H := topE H
  unfold spec_DrawNearEnds.f at H
  refine HT_seq_k ?_
  intro K1 hK1
  refine HT_region ?_
  refine HL_cons rfl ?_
  refine o_assign ?_
  try dsimp only [putL, setL, evL, getL]
  refine HL_cons rfl ?_
  refine o_assign ?_
  try dsimp only [putL, setL, evL, getL]
  refine HL_cons rfl ?_
  refine o_assign ?_
  try dsimp only [putL, setL, evL, getL]
  refine HL_nil ?_
  refine hK1 _ _ ?_
  refine HT_seq_k ?_
  intro K2 hK2
  refine HT_region ?_
  refine HL_cons rfl ?_
  refine o_move ?_
  try dsimp only [putL, setL, evL, getL]
  refine HL_cons rfl ?_
  refine o_build (pl := [(0, 1), (1, 1), (2, 1)]) (cs := #[.slice A0p p0.length c0p, .int .i64 0, .int .u64 0]) Try.underlying113 tI113 (by kernel_rfl) (by kernel_rfl) rfl ?_
  try dsimp only [putL, setL, evL, getL]
  refine HL_cons rfl ?_
  refine o_boxH hH rfl ?_
  intro b3 s3 hH' hG
  replace hH : Hp sb s F0 s3 [Ck.ov b3 [.slice A0p p0.length c0p, .int .i64 0, .int .u64 0] 113] := hH'
  clear hH' hG
  try dsimp only [putL, setL, evL, getL]
  refine HL_cons rfl ?_
  refine o_assign ?_
  try dsimp only [putL, setL, evL, getL]
  refine HL_nil ?_
  refine hK2 _ _ ?_
  refine HT_seq_k ?_
  intro K4 hK4
  refine HT_region ?_
  refine HL_cons rfl ?_
  refine o_move ?_
  try dsimp only [putL, setL, evL, getL]
  replace H := headE H
  obtain ⟨u5, hu5, H⟩ := H
  obtain ⟨F1, hA, hB⟩ := hH.take [0] (by decide)
  dsimp only [addC, setC, rmC, selC, getC] at hA
  refine HL_cons rfl ?_
  refine o_call (args := #[.pointer (some ⟨b3, 0, none⟩), .int .i64 4]) Try.func103 rfl rfl rfl (spec_l1Cur_small.ok sb s3 F1 b3 A0p c0p p0 0 0 4 HRp0 hA _ hu5) ?_
  rintro _ s5 ⟨A6, c6, rfl, hD⟩
  replace hH := hB _ _ _ (Up.refl _ _ _) hD
  clear hD hA hB
  dsimp only [addC, setC, rmC, selC, getC] at hH
  try dsimp only [putL, setL, evL, getL]
  refine HL_cons rfl ?_
  refine o_move ?_
  try dsimp only [putL, setL, evL, getL]
  replace H := headE H
  obtain ⟨u7, hu7, H⟩ := H
  obtain ⟨F1, hA, hB⟩ := hH.take [2] (by decide)
  dsimp only [addC, setC, rmC, selC, getC] at hA
  refine HL_cons rfl ?_
  refine o_call (args := #[.pointer (some ⟨b3, 0, none⟩), .int .i64 12]) Try.func103 rfl rfl rfl (spec_l1Cur_small.ok sb s5 F1 b3 A0p c0p p0 u5.2.1 u5.2.2 12 HRp0 hA _ hu7) ?_
  rintro _ s7 ⟨A8, c8, rfl, hD⟩
  replace hH := hB _ _ _ (Up.refl _ _ _) hD
  clear hD hA hB
  dsimp only [addC, setC, rmC, selC, getC] at hH
  try dsimp only [putL, setL, evL, getL]
  refine HL_cons rfl ?_
  refine o_move ?_
  try dsimp only [putL, setL, evL, getL]
  refine HL_cons rfl ?_
  refine o_litF (K := KI) (O := OI) (ca := #[.int .i64 0, .int .i64 1, .int .i64 2, .int .i64 3, .int .i64 (-1), .int .i64 60, .int .i64 61]) [[.int .i64 0], [.int .i64 1], [.int .i64 2], [.int .i64 3], [.int .i64 (-1)], [.int .i64 60], [.int .i64 61]] [0, 1, 2, 3, -1, 60, 61] hH Try.underlying24 tI3 rfl (by decide) rfl rfl (by kernel_rfl) rfl ⟨rfl, Ent.own (Ent.flat rfl), rfl, Ent.own (Ent.flat rfl), rfl, Ent.own (Ent.flat rfl), rfl, Ent.own (Ent.flat rfl), rfl, Ent.own (Ent.flat rfl), rfl, Ent.own (Ent.flat rfl), rfl, Ent.own (Ent.flat rfl), trivial⟩ ?_
  intro A9 s9 hH' hG
  replace hH : Hp sb s F0 s9 [Ck.emp, Ck.ol OI 3 A6 c6 u5.1, Ck.emp, Ck.ol OI 3 A8 c8 u7.1, Ck.ov b3 [.slice A0p p0.length c0p, .int .i64 u7.2.1, .int .u64 u7.2.2] 113, Ck.ol OI 3 A9 7 [0, 1, 2, 3, -1, 60, 61]] := hH'
  clear hH' hG
  try dsimp only [putL, setL, evL, getL]
  replace H := headE H
  obtain ⟨u10, hu10, H⟩ := H
  obtain ⟨F1, sx, hx, hC, hA, hB⟩ := hH.takeT [4] (by decide)
  dsimp only [addC, setC, rmC, selC, getC] at hA
  refine HL_cons rfl ?_
  refine o_call (args := #[.pointer (some ⟨b3, 0, none⟩), .slice A9 [0, 1, 2, 3, -1, 60, 61].length 7]) Try.func104 rfl rfl rfl (spec_l1Cur_among.ok sx s9 F1 b3 A0p c0p p0 u7.2.1 u7.2.2 A9 7 [0, 1, 2, 3, -1, 60, 61] (HRp0.mono hx.mono) (Ck.rdT hx (hC 5 (by decide)) rfl) hA _ hu10) ?_
  rintro _ s10 ⟨rfl, hD⟩
  replace hH := hB _ _ _ inferInstance hD
  clear hD hA hB hx hC
  dsimp only [addC, setC, rmC, selC, getC] at hH
  try dsimp only [putL, setL, evL, getL]
  refine HL_cons rfl ?_
  refine o_assign ?_
  try dsimp only [putL, setL, evL, getL]
  refine HL_cons rfl ?_
  refine o_assign ?_
  try dsimp only [putL, setL, evL, getL]
  refine HL_cons rfl ?_
  refine o_assign ?_
  try dsimp only [putL, setL, evL, getL]
  refine HL_nil ?_
  refine hK4 _ _ ?_
  refine HT_ret ?_
  exact hQr _ _ [.slice A6 u5.1.length c6, .slice A8 u7.1.length c8, .int .i64 u10.1] ⟨rfl, rfl, rfl, trivial⟩ (retH (fun r => spec_DrawNearEnds.post sb s F0 r _ _) (show some _ = some r from H) ⟨A6, c6, A8, c8, rfl, hH.sel [1, 3] (by decide)⟩)
def impl_NearEnds.l2 (p0 : List (Int)) : Nat → (List (Int)) → Int → Option (List (Int))
  | 0, _, _ => none
  | kf + 1, x1160, x1161 => if (decide (x1161 < (p0.length : Int))) = true then ((rd? x1160 (IntKind.i64.wrap (x1161 + 1))).bind fun u1179 => (rd? x1160 x1161).bind fun u1180 => (rd? x1160 (IntKind.i64.wrap (x1161 + 1))).bind fun u1181 => (st? x1160 (IntKind.i64.wrap (x1161 + 1)) (min u1179 (IntKind.i64.wrap (u1180 + 1)))).bind fun x1182 => impl_NearEnds.l2 p0 kf x1182 (IntKind.i64.wrap (x1161 + 1))) else (some x1160)
def impl_NearEnds.l1 (p0 : List (Int)) (p1 : List (Int)) (p2 : Int) : Nat → (List (Int)) → (List (Int)) → Int → Option (List (Int))
  | 0, _, _, _ => none
  | kf + 1, x805, x806, x807 => if (decide (x807 < (IntKind.i64.wrap ((p1.length : Int) + 1)))) = true then (((if (decide (x807 > 0)) = true then ((rd? p1 (IntKind.i64.wrap (x807 - 1))).bind fun u1108 => (impl_nextRow.f x806 u1108 p0).bind fun u1109 => some u1109) else (some x806)).bind fun (o : (List (Int))) => match o with | x1105 => ((rd? x1105 0).bind fun u1113 => (st? x1105 0 0).bind fun x1114 => (impl_NearEnds.l2 p0 ((((p0.length : Int)) - (0)).toNat + 2) x1114 0).bind fun (o : (List (Int))) => match o with | x1150 => ((rd? x1150 (p0.length : Int)).bind fun u1185 => if (decide (u1185 ≤ p2)) = true then ((app? 17592186044416 x805 [x807]).bind fun x1188 => some (x1188, x1150)) else (some (x805, x1150))))).bind fun (o : (List (Int)) × (List (Int))) => match o with | (x1096, x1097) => (impl_NearEnds.l1 p0 p1 p2 kf x1096 x1097 (IntKind.i64.wrap (x807 + 1)))) else (some x805)
def impl_NearEnds.f (p0 : List (Int)) (p1 : List (Int)) (p2 : Int) : Option ((List (Int)) × Bool) := ((impl_areShort.f [p0, p1]).bind fun u27 => if (!u27) = true then (some true) else (if ((p0.length : Int) == 0) = true then (some true) else ((impl_inRange.f p2 0 60).bind fun u30 => some (!u30)))).bind fun (o : Bool) => match o with | x25 => (if x25 = true then (some ([], false)) else ((impl_firstRow.f (p0.length : Int)).bind fun u36 => (impl_NearEnds.l1 p0 p1 p2 (((IntKind.i64.wrap ((p1.length : Int) + 1)) - (0)).toNat + 2) ([] : List (Int)) u36 0).bind fun (o : (List (Int))) => match o with | x615 => (some (x615, true))))
def impl_NearEnds.post (sb s : St) (F0 : Fp) (r : (List (Int)) × Bool) : Value → St → Prop := fun v s' => ∃ (A0 : Option Addr) (c0 : Nat), v = .tuple #[.slice A0 r.1.length c0, .bool r.2] ∧ Hp sb s F0 s' [Ck.ol OI 3 A0 c0 r.1]
set_option maxRecDepth 100000 in
set_option maxHeartbeats 4000000 in
theorem impl_NearEnds.ok (sb s : St) (F0 : Fp) (A0p : Option Addr) (c0p : Nat) (p0 : List (Int)) (A1p : Option Addr) (c1p : Nat) (p1 : List (Int)) (p2 : Int) (HRp0 : Rd KI sb A0p c0p p0) (HRp1 : Rd KI sb A1p c1p p1) (hH : Hp sb s F0 s []) (r : (List (Int)) × Bool) (H : impl_NearEnds.f p0 p1 p2 = some r) : GCall Try.prog 21 #[.slice A0p p0.length c0p, .slice A1p p1.length c1p, .int .i64 p2] s (impl_NearEnds.post sb s F0 r) := by
  refine GCall_ofk [.tmp 6, .tmp 7] [.slice A0p p0.length c0p, .slice A1p p1.length c1p, .int .i64 p2, undef, undef, undef, undef, undef, undef, undef, undef, undef, undef, undef, undef, undef, undef, undef, undef, undef, undef, undef, undef, undef, undef, undef, undef, undef, undef, undef, undef, undef, undef, undef, undef, undef, undef, undef, undef, undef, undef, undef, undef, undef, undef, undef, undef, undef, undef, undef, undef, undef, undef, undef, undef, undef, undef, undef, undef, undef, undef, undef, undef, undef, undef, undef, undef, undef, undef, undef, undef, undef, undef, undef, undef, undef, undef, undef, undef, undef, undef, undef, undef] Try.func21 rfl rfl rfl ?_
  intro w Q hQr hQn hQp
  replace H := topE H
  unfold impl_NearEnds.f at H
  refine HT_seq_k ?_
  intro K1 hK1
  refine HT_region ?_
  refine HL_cons rfl ?_
  refine o_assign ?_
  try dsimp only [putL, setL, evL, getL]
  refine HL_cons rfl ?_
  refine o_assign ?_
  try dsimp only [putL, setL, evL, getL]
  refine HL_nil ?_
  refine hK1 _ _ ?_
  refine HT_seq_k ?_
  intro K18 hK18
  refine joinH H fun G19 hG19 H => ?_
  refine HT_joinK (fun l' s' => ∃ (x25 : Bool), G19 x25 = some r ∧ l' = [.slice A0p p0.length c0p, .slice A1p p1.length c1p, .int .i64 p2, undef, undef, undef, .slice none 0 0, .bool false, undef, undef, undef, undef, getL l' 12, getL l' 13, getL l' 14, getL l' 15, getL l' 16, getL l' 17, getL l' 18, getL l' 19, getL l' 20, getL l' 21, getL l' 22, getL l' 23, getL l' 24, getL l' 25, .bool x25, undef, undef, undef, undef, undef, undef, undef, undef, undef, undef, undef, undef, undef, undef, undef, undef, undef, undef, undef, undef, undef, undef, undef, undef, undef, undef, undef, undef, undef, undef, undef, undef, undef, undef, undef, undef, undef, undef, undef, undef, undef, undef, undef, undef, undef, undef, undef, undef, undef, undef, undef, undef, undef, undef, undef, undef] ∧ Hp sb s F0 s' []) ?_ ?_
  · intro K19 hK19
    refine HT_region ?_
    refine HL_cons rfl ?_
    refine o_move ?_
    try dsimp only [putL, setL, evL, getL]
    refine HL_cons rfl ?_
    refine o_move ?_
    try dsimp only [putL, setL, evL, getL]
    refine HL_cons rfl ?_
    refine o_litF (K := (Kd.sl KI)) (O := (Ow.lent (Kd.sl KI))) (ca := #[.slice A0p p0.length c0p, .slice A1p p1.length c1p]) [[.slice A0p p0.length c0p], [.slice A1p p1.length c1p]] [p0, p1] hH Try.underlying105 tI24 rfl (by decide) rfl rfl (by kernel_rfl) rfl ⟨rfl, Ent.own (Ent.lent ⟨_, _, rfl, HRp0⟩), rfl, Ent.own (Ent.lent ⟨_, _, rfl, HRp1⟩), trivial⟩ ?_
    intro A26 s26 hH' hG
    replace hH : Hp sb s F0 s26 [Ck.ol (Ow.lent (Kd.sl KI)) 24 A26 2 [p0, p1]] := hH'
    clear hH' hG
    try dsimp only [putL, setL, evL, getL]
    replace H := headE H
    obtain ⟨u27, hu27, H⟩ := H
    refine HL_cons rfl ?_
    refine o_call (args := #[.slice A26 [p0, p1].length 2]) Try.func99 rfl rfl rfl (impl_areShort.ok s26 s26 no A26 2 [p0, p1] (hH.rd 0 rfl) (Hp.own (Bs.refl s26)) _ hu27) ?_
    rintro _ s27 ⟨rfl, hD⟩
    replace hH := hH.back0T hD
    clear hD
    dsimp only [addC, setC, rmC, selC, getC] at hH
    try dsimp only [putL, setL, evL, getL]
    refine HL_cons rfl ?_
    refine o_not rfl ?_
    try dsimp only [putL, setL, evL, getL]
    refine HL_cons rfl ?_
    refine o_move ?_
    try dsimp only [putL, setL, evL, getL]
    rcases Bool.eq_false_or_eq_true (!u27) with hb28 | hb28
    · replace H := iteT hb28 H
      refine HL_skip ?_ ?_
      · exact wantF (j := 5) (b := false) (t := 17) (c := !u27) rfl rfl rfl rfl hb28
      try dsimp only [putL, setL, evL, getL]
      refine HL_skip ?_ ?_
      · exact wantF (j := 5) (b := false) (t := 17) (c := !u27) rfl rfl rfl rfl hb28
      try dsimp only [putL, setL, evL, getL]
      refine HL_skip ?_ ?_
      · exact wantF (j := 5) (b := false) (t := 17) (c := !u27) rfl rfl rfl rfl hb28
      try dsimp only [putL, setL, evL, getL]
      refine HL_cons rfl ?_
      refine o_pickT rfl hb28 ?_
      try dsimp only [putL, setL, evL, getL]
      refine HL_cons rfl ?_
      refine o_move ?_
      try dsimp only [putL, setL, evL, getL]
      refine HL_skip ?_ ?_
      · exact wantF (j := 10) (b := false) (t := 22) (c := true) rfl rfl rfl rfl rfl
      try dsimp only [putL, setL, evL, getL]
      refine HL_skip ?_ ?_
      · exact wantF (j := 10) (b := false) (t := 22) (c := true) rfl rfl rfl rfl rfl
      try dsimp only [putL, setL, evL, getL]
      refine HL_skip ?_ ?_
      · exact wantF (j := 10) (b := false) (t := 22) (c := true) rfl rfl rfl rfl rfl
      try dsimp only [putL, setL, evL, getL]
      refine HL_cons rfl ?_
      refine o_pickT rfl rfl ?_
      try dsimp only [putL, setL, evL, getL]
      refine HL_nil ?_
      exact hK19 _ _ ⟨true, H, rfl, hH.sel [] (by decide)⟩
    · replace H := iteF hb28 H
      refine HL_want ?_ ?_
      · exact wantT (j := 5) (b := false) (t := 17) (c := !u27) rfl rfl rfl rfl hb28
      refine o_move ?_
      try dsimp only [putL, setL, evL, getL]
      refine HL_want ?_ ?_
      · exact wantT (j := 5) (b := false) (t := 17) (c := !u27) rfl rfl rfl rfl hb28
      refine o_len rfl Try.underlying24 ?_
      try dsimp only [putL, setL, evL, getL]
      refine HL_want ?_ ?_
      · exact wantT (j := 5) (b := false) (t := 17) (c := !u27) rfl rfl rfl rfl hb28
      refine o_bin rfl rfl rfl ?_
      try dsimp only [putL, setL, evL, getL]
      refine HL_cons rfl ?_
      refine o_pickF rfl hb28 ?_
      try dsimp only [putL, setL, evL, getL]
      refine HL_cons rfl ?_
      refine o_move ?_
      try dsimp only [putL, setL, evL, getL]
      rcases Bool.eq_false_or_eq_true ((p0.length : Int) == 0) with hb29 | hb29
      · replace H := iteT hb29 H
        refine HL_skip ?_ ?_
        · exact wantF (j := 10) (b := false) (t := 22) (c := (p0.length : Int) == 0) rfl rfl rfl rfl hb29
        try dsimp only [putL, setL, evL, getL]
        refine HL_skip ?_ ?_
        · exact wantF (j := 10) (b := false) (t := 22) (c := (p0.length : Int) == 0) rfl rfl rfl rfl hb29
        try dsimp only [putL, setL, evL, getL]
        refine HL_skip ?_ ?_
        · exact wantF (j := 10) (b := false) (t := 22) (c := (p0.length : Int) == 0) rfl rfl rfl rfl hb29
        try dsimp only [putL, setL, evL, getL]
        refine HL_cons rfl ?_
        refine o_pickT rfl hb29 ?_
        try dsimp only [putL, setL, evL, getL]
        refine HL_nil ?_
        exact hK19 _ _ ⟨true, H, rfl, hH.sel [] (by decide)⟩
      · replace H := iteF hb29 H
        refine HL_want ?_ ?_
        · exact wantT (j := 10) (b := false) (t := 22) (c := (p0.length : Int) == 0) rfl rfl rfl rfl hb29
        refine o_move ?_
        try dsimp only [putL, setL, evL, getL]
        replace H := headE H
        obtain ⟨u30, hu30, H⟩ := H
        refine HL_want ?_ ?_
        · exact wantT (j := 10) (b := false) (t := 22) (c := (p0.length : Int) == 0) rfl rfl rfl rfl hb29
        refine o_call (args := #[.int .i64 p2, .int .i64 0, .int .i64 60]) Try.func105 rfl rfl rfl (impl_inRange.ok sb s27 no p2 0 60 (Hp.own hH.bs) _ hu30) ?_
        rintro _ s30 ⟨rfl, hD⟩
        replace hH := hH.back0 hD (Up.refl _ _ _)
        clear hD
        dsimp only [addC, setC, rmC, selC, getC] at hH
        try dsimp only [putL, setL, evL, getL]
        refine HL_want ?_ ?_
        · exact wantT (j := 10) (b := false) (t := 22) (c := (p0.length : Int) == 0) rfl rfl rfl rfl hb29
        refine o_not rfl ?_
        try dsimp only [putL, setL, evL, getL]
        refine HL_cons rfl ?_
        refine o_pickF rfl hb29 ?_
        try dsimp only [putL, setL, evL, getL]
        refine HL_nil ?_
        exact hK19 _ _ ⟨!u30, H, rfl, hH.sel [] (by decide)⟩
  · rintro l' s31 ⟨x25, H, hl, hH⟩
    generalize getL l' 12 = j12, getL l' 13 = j13, getL l' 14 = j14, getL l' 15 = j15, getL l' 16 = j16, getL l' 17 = j17, getL l' 18 = j18, getL l' 19 = j19, getL l' 20 = j20, getL l' 21 = j21, getL l' 22 = j22, getL l' 23 = j23, getL l' 24 = j24, getL l' 25 = j25 at hl
    subst hl
    replace H := hG19 _ H
    try dsimp only at H
    rcases Bool.eq_false_or_eq_true x25 with hb32 | hb32
    · replace H := iteT hb32 H
      refine HT_true (congrArg Value.bool hb32) ?_
      refine HT_seq_k ?_
      intro K33 hK33
      refine HT_region ?_
      refine HL_cons rfl ?_
      refine o_assign ?_
      try dsimp only [putL, setL, evL, getL]
      refine HL_cons rfl ?_
      refine o_assign ?_
      try dsimp only [putL, setL, evL, getL]
      refine HL_nil ?_
      refine hK33 _ _ ?_
      refine HT_ret ?_
      exact hQr _ _ [.slice none 0 0, .bool false] ⟨rfl, rfl, trivial⟩ (retH (fun r => impl_NearEnds.post sb s F0 r _ _) (show some _ = some r from H) ⟨none, 0, rfl, (hH.nil (K := KI) OI 3)⟩)
    · replace H := iteF hb32 H
      refine HT_false (congrArg Value.bool hb32) ?_
      refine HT_skip ?_
      refine hK18 _ _ ?_
      refine HT_seq_k ?_
      intro K34 hK34
      refine HT_region ?_
      refine HL_cons rfl ?_
      refine o_lit0H (α := Int) (K := KI) (O := OI) hH Try.underlying24 tI3 ?_
      intro A35 s35 hH' hG
      replace hH : Hp sb s F0 s35 [Ck.ol OI 3 A35 0 ([] : List (Int))] := hH'
      clear hH' hG
      try dsimp only [putL, setL, evL, getL]
      refine HL_cons rfl ?_
      refine o_move ?_
      try dsimp only [putL, setL, evL, getL]
      refine HL_cons rfl ?_
      refine o_len rfl Try.underlying24 ?_
      try dsimp only [putL, setL, evL, getL]
      replace H := headE H
      obtain ⟨u36, hu36, H⟩ := H
      refine HL_cons rfl ?_
      refine o_call (args := #[.int .i64 (p0.length : Int)]) Try.func106 rfl rfl rfl (impl_firstRow.ok sb s35 no (p0.length : Int) (Hp.own hH.bs) _ hu36) ?_
      rintro _ s36 ⟨A37, c37, rfl, hD⟩
      replace hH := hH.back0 hD (Up.refl _ _ _)
      clear hD
      dsimp only [addC, setC, rmC, selC, getC] at hH
      try dsimp only [putL, setL, evL, getL]
      refine HL_cons rfl ?_
      refine o_assign ?_
      try dsimp only [putL, setL, evL, getL]
      refine HL_cons rfl ?_
      refine o_assign ?_
      try dsimp only [putL, setL, evL, getL]
      refine HL_nil ?_
      refine hK34 _ _ ?_
      refine HT_seq_k ?_
      intro K38 hK38
      refine HT_seq_k ?_
      intro K39 hK39
      refine HT_region ?_
      refine HL_cons rfl ?_
      refine o_move ?_
      try dsimp only [putL, setL, evL, getL]
      refine HL_cons rfl ?_
      refine o_len rfl Try.underlying24 ?_
      try dsimp only [putL, setL, evL, getL]
      refine HL_cons rfl ?_
      refine o_bin rfl rfl rfl ?_
      try dsimp only [putL, setL, evL, getL]
      refine HL_cons rfl ?_
      refine o_move ?_
      try dsimp only [putL, setL, evL, getL]
      refine HL_nil ?_
      refine hK39 _ _ ?_
      refine joinH H fun G40 hG40 H => ?_
      refine HT_toK (fun l' s' => ∃ (x615 : List (Int)) (A615 : Option Addr) (c615 : Nat), G40 x615 = some r ∧ l' = [.slice A0p p0.length c0p, .slice A1p p1.length c1p, .int .i64 p2, undef, undef, undef, .slice none 0 0, .bool false, .slice A615 x615.length c615, getL l' 9, getL l' 10, getL l' 11, j12, j13, j14, j15, j16, j17, j18, j19, j20, j21, j22, j23, j24, j25, .bool x25, .slice A35 ([] : List (Int)).length 0, .slice A0p p0.length c0p, .int .i64 (p0.length : Int), .slice A37 u36.length c37, .slice A1p p1.length c1p, .int .i64 (p1.length : Int), .int .i64 (IntKind.i64.wrap ((p1.length : Int) + 1)), getL l' 34, getL l' 35, getL l' 36, getL l' 37, getL l' 38, getL l' 39, getL l' 40, getL l' 41, getL l' 42, getL l' 43, getL l' 44, getL l' 45, getL l' 46, getL l' 47, getL l' 48, getL l' 49, getL l' 50, getL l' 51, getL l' 52, getL l' 53, getL l' 54, getL l' 55, getL l' 56, getL l' 57, getL l' 58, getL l' 59, getL l' 60, getL l' 61, getL l' 62, getL l' 63, getL l' 64, getL l' 65, getL l' 66, getL l' 67, getL l' 68, getL l' 69, getL l' 70, getL l' 71, getL l' 72, getL l' 73, getL l' 74, getL l' 75, getL l' 76, getL l' 77, getL l' 78, getL l' 79, getL l' 80, getL l' 81, undef] ∧ Hp sb s F0 s' [Ck.ol OI 3 A615 c615 x615]) ?_ ?_
      · intro K40 hK40
        refine HT_block ?_
        refine HT_loopK (fun kf l' s' => ∃ (x805 : List (Int)) (A805 : Option Addr) (c805 : Nat) (x806 : List (Int)) (A806 : Option Addr) (c806 : Nat) (x807 : Int), (impl_NearEnds.l1 p0 p1 p2 kf x805 x806 x807).bind G40 = some r ∧ l' = [.slice A0p p0.length c0p, .slice A1p p1.length c1p, .int .i64 p2, undef, undef, undef, .slice none 0 0, .bool false, .slice A805 x805.length c805, .slice A806 x806.length c806, getL l' 10, getL l' 11, j12, j13, j14, j15, j16, j17, j18, j19, j20, j21, j22, j23, j24, j25, .bool x25, .slice A35 ([] : List (Int)).length 0, .slice A0p p0.length c0p, .int .i64 (p0.length : Int), .slice A37 u36.length c37, .slice A1p p1.length c1p, .int .i64 (p1.length : Int), .int .i64 (IntKind.i64.wrap ((p1.length : Int) + 1)), .int .i64 x807, getL l' 35, getL l' 36, getL l' 37, getL l' 38, getL l' 39, getL l' 40, getL l' 41, getL l' 42, getL l' 43, getL l' 44, getL l' 45, getL l' 46, getL l' 47, getL l' 48, getL l' 49, getL l' 50, getL l' 51, getL l' 52, getL l' 53, getL l' 54, getL l' 55, getL l' 56, getL l' 57, getL l' 58, getL l' 59, getL l' 60, getL l' 61, getL l' 62, getL l' 63, getL l' 64, getL l' 65, getL l' 66, getL l' 67, getL l' 68, getL l' 69, getL l' 70, getL l' 71, getL l' 72, getL l' 73, getL l' 74, getL l' 75, getL l' 76, getL l' 77, getL l' 78, getL l' 79, getL l' 80, getL l' 81, undef] ∧ Hp sb s F0 s' [Ck.ol OI 3 A805 c805 x805, Ck.ol OI 3 A806 c806 x806]) (((IntKind.i64.wrap ((p1.length : Int) + 1)) - (0)).toNat + 2) ⟨([] : List (Int)), A35, 0, u36, A37, c37, 0, H, rfl, hH⟩ ?_
        rintro kf l' s1000 ⟨x805, A805, c805, x806, A806, c806, x807, H, hl, hH⟩ K1000 hK1000
        generalize getL l' 10 = j10, getL l' 11 = j11, getL l' 35 = j35, getL l' 36 = j36, getL l' 37 = j37, getL l' 38 = j38, getL l' 39 = j39, getL l' 40 = j40, getL l' 41 = j41, getL l' 42 = j42, getL l' 43 = j43, getL l' 44 = j44, getL l' 45 = j45, getL l' 46 = j46, getL l' 47 = j47, getL l' 48 = j48, getL l' 49 = j49, getL l' 50 = j50, getL l' 51 = j51, getL l' 52 = j52, getL l' 53 = j53, getL l' 54 = j54, getL l' 55 = j55, getL l' 56 = j56, getL l' 57 = j57, getL l' 58 = j58, getL l' 59 = j59, getL l' 60 = j60, getL l' 61 = j61, getL l' 62 = j62, getL l' 63 = j63, getL l' 64 = j64, getL l' 65 = j65, getL l' 66 = j66, getL l' 67 = j67, getL l' 68 = j68, getL l' 69 = j69, getL l' 70 = j70, getL l' 71 = j71, getL l' 72 = j72, getL l' 73 = j73, getL l' 74 = j74, getL l' 75 = j75, getL l' 76 = j76, getL l' 77 = j77, getL l' 78 = j78, getL l' 79 = j79, getL l' 80 = j80, getL l' 81 = j81 at hl
        subst hl
        cases kf with
        | zero => simp [impl_NearEnds.l1] at H
        | succ kf =>
          rw [impl_NearEnds.l1] at H
          refine HT_seq_k ?_
          intro K1001 hK1001
          refine HT_region ?_
          refine HL_cons rfl ?_
          refine o_bin rfl rfl rfl ?_
          try dsimp only [putL, setL, evL, getL]
          refine HL_nil ?_
          refine hK1001 _ _ ?_
          refine HT_seq_k ?_
          intro K1002 hK1002
          rcases Bool.eq_false_or_eq_true (decide (x807 < (IntKind.i64.wrap ((p1.length : Int) + 1)))) with hb1003 | hb1003
          · replace H := iteT hb1003 H
            refine HT_true (congrArg Value.bool hb1003) ?_
            refine HT_skip ?_
            refine hK1002 _ _ ?_
            refine joinH H fun G1004 hG1004 H => ?_
            refine HT_joinK (fun l' s' => ∃ (x1096 : List (Int)) (A1096 : Option Addr) (c1096 : Nat) (x1097 : List (Int)) (A1097 : Option Addr) (c1097 : Nat), G1004 (x1096, x1097) = some r ∧ l' = [.slice A0p p0.length c0p, .slice A1p p1.length c1p, .int .i64 p2, undef, undef, undef, .slice none 0 0, .bool false, .slice A1096 x1096.length c1096, .slice A1097 x1097.length c1097, getL l' 10, getL l' 11, j12, j13, j14, j15, j16, j17, j18, j19, j20, j21, j22, j23, j24, j25, .bool x25, .slice A35 ([] : List (Int)).length 0, .slice A0p p0.length c0p, .int .i64 (p0.length : Int), .slice A37 u36.length c37, .slice A1p p1.length c1p, .int .i64 (p1.length : Int), .int .i64 (IntKind.i64.wrap ((p1.length : Int) + 1)), .int .i64 x807, .bool (decide (x807 < (IntKind.i64.wrap ((p1.length : Int) + 1)))), getL l' 36, getL l' 37, getL l' 38, getL l' 39, getL l' 40, getL l' 41, getL l' 42, getL l' 43, getL l' 44, getL l' 45, getL l' 46, getL l' 47, getL l' 48, getL l' 49, getL l' 50, getL l' 51, getL l' 52, getL l' 53, getL l' 54, getL l' 55, getL l' 56, getL l' 57, getL l' 58, getL l' 59, getL l' 60, getL l' 61, getL l' 62, getL l' 63, getL l' 64, getL l' 65, getL l' 66, getL l' 67, getL l' 68, getL l' 69, getL l' 70, getL l' 71, getL l' 72, getL l' 73, getL l' 74, getL l' 75, getL l' 76, getL l' 77, getL l' 78, getL l' 79, getL l' 80, j81, undef] ∧ Hp sb s F0 s' [Ck.ol OI 3 A1096 c1096 x1096, Ck.ol OI 3 A1097 c1097 x1097]) ?_ ?_
            · intro K1004 hK1004
              refine HT_block ?_
              refine HT_seq_k ?_
              intro K1098 hK1098
              refine HT_region ?_
              refine HL_cons rfl ?_
              refine o_move ?_
              try dsimp only [putL, setL, evL, getL]
              refine HL_cons rfl ?_
              refine o_assign ?_
              try dsimp only [putL, setL, evL, getL]
              refine HL_nil ?_
              refine hK1098 _ _ ?_
              refine joinH H fun G1099 hG1099 H => ?_
              refine HT_joinK (fun l' s' => ∃ (x1105 : List (Int)) (A1105 : Option Addr) (c1105 : Nat), G1099 x1105 = some r ∧ l' = [.slice A0p p0.length c0p, .slice A1p p1.length c1p, .int .i64 p2, undef, undef, undef, .slice none 0 0, .bool false, .slice A805 x805.length c805, .slice A1105 x1105.length c1105, .int .i64 x807, j11, j12, j13, j14, j15, j16, j17, j18, j19, j20, j21, j22, j23, j24, j25, .bool x25, .slice A35 ([] : List (Int)).length 0, .slice A0p p0.length c0p, .int .i64 (p0.length : Int), .slice A37 u36.length c37, .slice A1p p1.length c1p, .int .i64 (p1.length : Int), .int .i64 (IntKind.i64.wrap ((p1.length : Int) + 1)), .int .i64 x807, .bool (decide (x807 < (IntKind.i64.wrap ((p1.length : Int) + 1)))), .int .i64 x807, getL l' 37, getL l' 38, getL l' 39, getL l' 40, getL l' 41, getL l' 42, getL l' 43, getL l' 44, getL l' 45, getL l' 46, j47, j48, j49, j50, j51, j52, j53, j54, j55, j56, j57, j58, j59, j60, j61, j62, j63, j64, j65, j66, j67, j68, j69, j70, j71, j72, j73, j74, j75, j76, j77, j78, j79, j80, j81, undef] ∧ Hp sb s F0 s' [Ck.ol OI 3 A1105 c1105 x1105, Ck.ol OI 3 A805 c805 x805]) ?_ ?_
              · intro K1099 hK1099
                refine HT_seq_k ?_
                intro K1106 hK1106
                refine HT_region ?_
                refine HL_cons rfl ?_
                refine o_move ?_
                try dsimp only [putL, setL, evL, getL]
                refine HL_cons rfl ?_
                refine o_bin rfl rfl rfl ?_
                try dsimp only [putL, setL, evL, getL]
                refine HL_nil ?_
                refine hK1106 _ _ ?_
                rcases Bool.eq_false_or_eq_true (decide (x807 > 0)) with hb1107 | hb1107
                · replace H := iteT hb1107 H
                  refine HT_true (congrArg Value.bool hb1107) ?_
                  refine HT_region ?_
                  refine HL_cons rfl ?_
                  refine o_move ?_
                  try dsimp only [putL, setL, evL, getL]
                  refine HL_cons rfl ?_
                  refine o_move ?_
                  try dsimp only [putL, setL, evL, getL]
                  refine HL_cons rfl ?_
                  refine o_move ?_
                  try dsimp only [putL, setL, evL, getL]
                  refine HL_cons rfl ?_
                  refine o_bin rfl rfl rfl ?_
                  try dsimp only [putL, setL, evL, getL]
                  replace H := headE H
                  obtain ⟨u1108, hu1108, H⟩ := H
                  obtain ⟨b1108, o1108, cs1108, hr1108, hh1108, hel1108⟩ := Rd.elb HRp1 hu1108
                  obtain rfl := hr1108
                  refine HL_cons rfl ?_
                  refine hel1108 s1000 rfl rfl Try.underlying24 tI3 ?_
                  try dsimp only [putL, setL, evL, getL]
                  refine HL_cons rfl ?_
                  refine o_load' rfl Try.underlying3 rfl ((hh1108 hH.bs.mono) 0 _ rfl) ?_
                  try dsimp only [putL, setL, evL, getL]
                  refine HL_cons rfl ?_
                  refine o_move ?_
                  try dsimp only [putL, setL, evL, getL]
                  replace H := headE H
                  obtain ⟨u1109, hu1109, H⟩ := H
                  refine HL_cons rfl ?_
                  refine o_call (args := #[.slice A806 x806.length c806, .int .i64 u1108, .slice A0p p0.length c0p]) Try.func107 rfl rfl rfl (impl_nextRow.ok s1000 s1000 no A806 c806 x806 u1108 A0p c0p p0 (hH.rd 1 rfl) (HRp0.mono hH.bs.mono) (Hp.own (Bs.refl s1000)) _ hu1109) ?_
                  rintro _ s1109 ⟨A1110, c1110, rfl, hD⟩
                  replace hH := hH.back0T hD
                  clear hD
                  dsimp only [addC, setC, rmC, selC, getC] at hH
                  try dsimp only [putL, setL, evL, getL]
                  refine HL_cons rfl ?_
                  refine o_assign ?_
                  try dsimp only [putL, setL, evL, getL]
                  refine HL_nil ?_
                  exact hK1099 _ _ ⟨u1109, A1110, c1110, H, rfl, hH.sel [2, 0] (by decide)⟩
                · replace H := iteF hb1107 H
                  refine HT_false (congrArg Value.bool hb1107) ?_
                  refine HT_skip ?_
                  exact hK1099 _ _ ⟨x806, A806, c806, H, rfl, hH.sel [1, 0] (by decide)⟩
              · rintro l' s1111 ⟨x1105, A1105, c1105, H, hl, hH⟩
                generalize getL l' 37 = j37, getL l' 38 = j38, getL l' 39 = j39, getL l' 40 = j40, getL l' 41 = j41, getL l' 42 = j42, getL l' 43 = j43, getL l' 44 = j44, getL l' 45 = j45, getL l' 46 = j46 at hl
                subst hl
                replace H := hG1099 _ H
                try dsimp only at H
                refine HT_seq_k ?_
                intro K1112 hK1112
                refine HT_region ?_
                refine HL_cons rfl ?_
                refine o_move ?_
                try dsimp only [putL, setL, evL, getL]
                replace H := headE H
                obtain ⟨u1113, hu1113, H⟩ := H
                obtain ⟨b1113, o1113, cs1113, hA1113, hr1113, hh1113, hel1113⟩ := hH.elo 0 rfl hu1113
                obtain rfl := hr1113
                refine HL_cons rfl ?_
                refine hel1113 s1111 rfl rfl Try.underlying24 tI3 ?_
                try dsimp only [putL, setL, evL, getL]
                replace H := headE H
                obtain ⟨x1114, hx1114, H⟩ := H
                refine HL_cons rfl ?_
                refine o_setF (vs := [.int .i64 0]) (u := 0) hH 0 rfl rfl rfl rfl rfl tI3 hA1113 hx1114 (Ent.own (Ent.flat rfl)) ?_
                intro s1114 hH'
                have hl1114 := st?_len hx1114
                replace hH : Hp sb s F0 s1114 [Ck.ol OI 3 A1105 c1105 x1114, Ck.ol OI 3 A805 c805 x805] := hH'
                clear hH'
                try dsimp only [putL, setL, evL, getL]
                refine HL_nil ?_
                refine hK1112 _ _ ?_
                refine HT_seq_k ?_
                intro K1115 hK1115
                refine HT_seq_k ?_
                intro K1116 hK1116
                refine HT_region ?_
                refine HL_cons rfl ?_
                refine o_move ?_
                try dsimp only [putL, setL, evL, getL]
                refine HL_cons rfl ?_
                refine o_len rfl Try.underlying24 ?_
                try dsimp only [putL, setL, evL, getL]
                refine HL_cons rfl ?_
                refine o_move ?_
                try dsimp only [putL, setL, evL, getL]
                refine HL_nil ?_
                refine hK1116 _ _ ?_
                refine joinH H fun G1117 hG1117 H => ?_
                refine HT_toK (fun l' s' => ∃ (x1150 : List (Int)), G1117 x1150 = some r ∧ l' = [.slice A0p p0.length c0p, .slice A1p p1.length c1p, .int .i64 p2, undef, undef, undef, .slice none 0 0, .bool false, .slice A805 x805.length c805, .slice A1105 x1105.length c1105, .int .i64 x807, getL l' 11, j12, j13, j14, j15, j16, j17, j18, j19, j20, j21, j22, j23, j24, j25, .bool x25, .slice A35 ([] : List (Int)).length 0, .slice A0p p0.length c0p, .int .i64 (p0.length : Int), .slice A37 u36.length c37, .slice A1p p1.length c1p, .int .i64 (p1.length : Int), .int .i64 (IntKind.i64.wrap ((p1.length : Int) + 1)), .int .i64 x807, .bool (decide (x807 < (IntKind.i64.wrap ((p1.length : Int) + 1)))), .int .i64 x807, j37, j38, j39, j40, j41, j42, j43, j44, j45, j46, .slice A1105 x1105.length c1105, .pointer (some ⟨b1113, o1113 + Int.toNat 0 * Kd.sz KI, none⟩), .slice A0p p0.length c0p, .int .i64 (p0.length : Int), getL l' 51, getL l' 52, getL l' 53, getL l' 54, getL l' 55, getL l' 56, getL l' 57, getL l' 58, getL l' 59, getL l' 60, getL l' 61, getL l' 62, getL l' 63, getL l' 64, getL l' 65, getL l' 66, getL l' 67, getL l' 68, getL l' 69, j70, j71, j72, j73, j74, j75, j76, j77, j78, j79, j80, j81, undef] ∧ Hp sb s F0 s' [Ck.ol OI 3 A805 c805 x805, Ck.ol OI 3 A1105 c1105 x1150] ∧ x1150.length = x1105.length) ?_ ?_
                · intro K1117 hK1117
                  refine HT_block ?_
                  refine HT_loopK (fun kf l' s' => ∃ (x1160 : List (Int)) (x1161 : Int), (impl_NearEnds.l2 p0 kf x1160 x1161).bind G1117 = some r ∧ l' = [.slice A0p p0.length c0p, .slice A1p p1.length c1p, .int .i64 p2, undef, undef, undef, .slice none 0 0, .bool false, .slice A805 x805.length c805, .slice A1105 x1105.length c1105, .int .i64 x807, getL l' 11, j12, j13, j14, j15, j16, j17, j18, j19, j20, j21, j22, j23, j24, j25, .bool x25, .slice A35 ([] : List (Int)).length 0, .slice A0p p0.length c0p, .int .i64 (p0.length : Int), .slice A37 u36.length c37, .slice A1p p1.length c1p, .int .i64 (p1.length : Int), .int .i64 (IntKind.i64.wrap ((p1.length : Int) + 1)), .int .i64 x807, .bool (decide (x807 < (IntKind.i64.wrap ((p1.length : Int) + 1)))), .int .i64 x807, j37, j38, j39, j40, j41, j42, j43, j44, j45, j46, .slice A1105 x1105.length c1105, .pointer (some ⟨b1113, o1113 + Int.toNat 0 * Kd.sz KI, none⟩), .slice A0p p0.length c0p, .int .i64 (p0.length : Int), .int .i64 x1161, getL l' 52, getL l' 53, getL l' 54, getL l' 55, getL l' 56, getL l' 57, getL l' 58, getL l' 59, getL l' 60, getL l' 61, getL l' 62, getL l' 63, getL l' 64, getL l' 65, getL l' 66, getL l' 67, getL l' 68, getL l' 69, j70, j71, j72, j73, j74, j75, j76, j77, j78, j79, j80, j81, undef] ∧ Hp sb s F0 s' [Ck.ol OI 3 A805 c805 x805, Ck.ol OI 3 A1105 c1105 x1160] ∧ x1160.length = x1105.length) ((((p0.length : Int)) - (0)).toNat + 2) ⟨x1114, 0, H, rfl, hH.sel [1, 0] (by decide), hl1114⟩ ?_
                  rintro kf l' s1173 ⟨x1160, x1161, H, hl, hH, hl1160⟩ K1173 hK1173
                  generalize getL l' 11 = j11, getL l' 52 = j52, getL l' 53 = j53, getL l' 54 = j54, getL l' 55 = j55, getL l' 56 = j56, getL l' 57 = j57, getL l' 58 = j58, getL l' 59 = j59, getL l' 60 = j60, getL l' 61 = j61, getL l' 62 = j62, getL l' 63 = j63, getL l' 64 = j64, getL l' 65 = j65, getL l' 66 = j66, getL l' 67 = j67, getL l' 68 = j68, getL l' 69 = j69 at hl
                  subst hl
                  cases kf with
                  | zero => simp [impl_NearEnds.l2] at H
                  | succ kf =>
                    rw [impl_NearEnds.l2] at H
                    refine HT_seq_k ?_
                    intro K1174 hK1174
                    refine HT_region ?_
                    refine HL_cons rfl ?_
                    refine o_bin rfl rfl rfl ?_
                    try dsimp only [putL, setL, evL, getL]
                    refine HL_nil ?_
                    refine hK1174 _ _ ?_
                    refine HT_seq_k ?_
                    intro K1175 hK1175
                    rcases Bool.eq_false_or_eq_true (decide (x1161 < (p0.length : Int))) with hb1176 | hb1176
                    · replace H := iteT hb1176 H
                      refine HT_true (congrArg Value.bool hb1176) ?_
                      refine HT_skip ?_
                      refine hK1175 _ _ ?_
                      refine HT_seq_k ?_
                      intro K1177 hK1177
                      refine HT_block ?_
                      refine HT_seq_k ?_
                      intro K1178 hK1178
                      refine HT_region ?_
                      refine HL_cons rfl ?_
                      refine o_move ?_
                      try dsimp only [putL, setL, evL, getL]
                      refine HL_cons rfl ?_
                      refine o_assign ?_
                      try dsimp only [putL, setL, evL, getL]
                      refine HL_nil ?_
                      refine hK1178 _ _ ?_
                      refine HX_draw hMix ?_
                      refine HX_lim (R := fun _ => True) (k := 0) (fun s' => Gro s1173 s') 15 ?_
                      have hR := Gro.refl s1173
                      have hH0 := hH
                      refine HK_readP 3 (v := .slice A1105 x1105.length c1105) rfl (by kernel_rfl) (fun c l s h => hQp c l s h) rfl (fun s' K hK => ?_) rfl rfl (fun _ => hR) ?_
                      · refine o_move ?_
                        exact hK
                      try dsimp only [putL, setL, evL, getL]
                      refine HK_readP 4 (v := .int .i64 x1161) rfl (by kernel_rfl) (fun c l s h => hQp c l s h) rfl (fun s' K hK => ?_) rfl rfl (fun _ => hR) ?_
                      · refine o_move ?_
                        exact hK
                      try dsimp only [putL, setL, evL, getL]
                      refine HK_readP 5 (v := .int .i64 (IntKind.i64.wrap (x1161 + 1))) rfl (by kernel_rfl) (fun c l s h => hQp c l s h) rfl (fun s' K hK => ?_) rfl rfl (fun _ => hR) ?_
                      · refine o_bin rfl rfl rfl ?_
                        exact hK
                      try dsimp only [putL, setL, evL, getL]
                      replace H := headE H
                      obtain ⟨u1179, hu1179, H⟩ := H
                      obtain ⟨b1179, o1179, cs1179, hA1179, hr1179, hh1179, hel1179⟩ := hH0.elo 1 rfl hu1179
                      obtain rfl := hr1179
                      refine HK_readP 6 (v := .pointer (some ⟨b1179, o1179 + Int.toNat (IntKind.i64.wrap (x1161 + 1)) * Kd.sz KI, none⟩)) rfl (by kernel_rfl) (fun c l s h => hQp c l s h) rfl (fun s' K hK => ?_) rfl rfl (fun _ => hR) ?_
                      · refine hel1179 s' (sliceLen hl1160) rfl Try.underlying24 tI3 ?_
                        exact hK
                      try dsimp only [putL, setL, evL, getL]
                      refine HK_read 7 (v := .int .i64 u1179) rfl (by kernel_rfl) (fun c l s h => hQp c l s h) rfl (fun s' hR' K hK => ?_) rfl rfl hR ?_
                      · refine o_load' rfl Try.underlying3 rfl (has_gro hR' (hh1179 0 _ rfl)) ?_
                        exact hK
                      try dsimp only [putL, setL, evL, getL]
                      refine HK_readP 8 (v := .slice A1105 x1105.length c1105) rfl (by kernel_rfl) (fun c l s h => hQp c l s h) rfl (fun s' K hK => ?_) rfl rfl (fun _ => hR) ?_
                      · refine o_move ?_
                        exact hK
                      try dsimp only [putL, setL, evL, getL]
                      refine HK_readP 9 (v := .int .i64 x1161) rfl (by kernel_rfl) (fun c l s h => hQp c l s h) rfl (fun s' K hK => ?_) rfl rfl (fun _ => hR) ?_
                      · refine o_move ?_
                        exact hK
                      try dsimp only [putL, setL, evL, getL]
                      replace H := headE H
                      obtain ⟨u1180, hu1180, H⟩ := H
                      obtain ⟨b1180, o1180, cs1180, hA1180, hr1180, hh1180, hel1180⟩ := hH0.elo 1 rfl hu1180
                      obtain rfl := hr1180
                      refine HK_readP 10 (v := .pointer (some ⟨b1180, o1180 + Int.toNat x1161 * Kd.sz KI, none⟩)) rfl (by kernel_rfl) (fun c l s h => hQp c l s h) rfl (fun s' K hK => ?_) rfl rfl (fun _ => hR) ?_
                      · refine hel1180 s' (sliceLen hl1160) rfl Try.underlying24 tI3 ?_
                        exact hK
                      try dsimp only [putL, setL, evL, getL]
                      refine HK_read 11 (v := .int .i64 u1180) rfl (by kernel_rfl) (fun c l s h => hQp c l s h) rfl (fun s' hR' K hK => ?_) rfl rfl hR ?_
                      · refine o_load' rfl Try.underlying3 rfl (has_gro hR' (hh1180 0 _ rfl)) ?_
                        exact hK
                      try dsimp only [putL, setL, evL, getL]
                      refine HK_readP 12 (v := .int .i64 (IntKind.i64.wrap (u1180 + 1))) rfl (by kernel_rfl) (fun c l s h => hQp c l s h) rfl (fun s' K hK => ?_) rfl rfl (fun _ => hR) ?_
                      · refine o_bin rfl rfl rfl ?_
                        exact hK
                      try dsimp only [putL, setL, evL, getL]
                      refine HK_readP 13 (v := .int .i64 (min u1179 (IntKind.i64.wrap (u1180 + 1)))) rfl (by kernel_rfl) (fun c l s h => hQp c l s h) rfl (fun s' K hK => ?_) rfl rfl (fun _ => hR) ?_
                      · refine o_min2 rfl rfl ?_
                        exact hK
                      try dsimp only [putL, setL, evL, getL]
                      refine HK_readP 0 (v := .slice A1105 x1105.length c1105) rfl (by kernel_rfl) (fun c l s h => hQp c l s h) rfl (fun s' K hK => ?_) rfl rfl (fun _ => hR) ?_
                      · refine o_move ?_
                        exact hK
                      try dsimp only [putL, setL, evL, getL]
                      refine HK_readP 1 (v := .int .i64 x1161) rfl (by kernel_rfl) (fun c l s h => hQp c l s h) rfl (fun s' K hK => ?_) rfl rfl (fun _ => hR) ?_
                      · refine o_move ?_
                        exact hK
                      try dsimp only [putL, setL, evL, getL]
                      refine HK_readP 2 (v := .int .i64 (IntKind.i64.wrap (x1161 + 1))) rfl (by kernel_rfl) (fun c l s h => hQp c l s h) rfl (fun s' K hK => ?_) rfl rfl (fun _ => hR) ?_
                      · refine o_bin rfl rfl rfl ?_
                        exact hK
                      try dsimp only [putL, setL, evL, getL]
                      replace H := headE H
                      obtain ⟨u1181, hu1181, H⟩ := H
                      obtain ⟨b1181, o1181, cs1181, hA1181, hr1181, hh1181, hel1181⟩ := hH0.elo 1 rfl hu1181
                      obtain rfl := hr1181
                      refine HK_readP 14 (v := .pointer (some ⟨b1181, o1181 + Int.toNat (IntKind.i64.wrap (x1161 + 1)) * Kd.sz KI, none⟩)) rfl (by kernel_rfl) (fun c l s h => hQp c l s h) rfl (fun s' K hK => ?_) rfl rfl (fun _ => hR) ?_
                      · refine hel1181 s' (sliceLen hl1160) rfl Try.underlying24 tI3 ?_
                        exact hK
                      try dsimp only [putL, setL, evL, getL]
                      refine HK_more [15] (by kernel_rfl) rfl (fun _ => hR) ⟨⟨_, rfl, Or.inl ⟨rfl, ?_⟩⟩, trivial⟩
                      replace H := headE H
                      obtain ⟨x1182, hx1182, H⟩ := H
                      skip
                      refine o_setF (vs := [.int .i64 (min u1179 (IntKind.i64.wrap (u1180 + 1)))]) (u := min u1179 (IntKind.i64.wrap (u1180 + 1))) hH 1 rfl rfl rfl rfl rfl tI3 hA1181 hx1182 (Ent.own (Ent.flat rfl)) ?_
                      intro s1182 hH'
                      have hl1182 := (st?_len hx1182).trans hl1160
                      replace hH : Hp sb s F0 s1182 [Ck.ol OI 3 A805 c805 x805, Ck.ol OI 3 A1105 c1105 x1182] := hH'
                      clear hH'
                      try dsimp only [putL, setL, evL, getL]
                      refine HK_free (by kernel_rfl) ?_
                      refine HX_done (by kernel_rfl) ?_
                      refine hK1177 _ _ ?_
                      refine HT_region ?_
                      refine HL_cons rfl ?_
                      refine o_bin rfl rfl rfl ?_
                      try dsimp only [putL, setL, evL, getL]
                      refine HL_cons rfl ?_
                      refine o_move ?_
                      try dsimp only [putL, setL, evL, getL]
                      refine HL_nil ?_
                      exact hK1173 _ _ ⟨kf, Nat.lt_succ_self kf, x1182, IntKind.i64.wrap (x1161 + 1), H, rfl, hH, hl1182⟩
                    · replace H := iteF hb1176 H
                      refine HT_false (congrArg Value.bool hb1176) ?_
                      refine HT_exit ?_
                      exact hK1117 _ _ ⟨x1160, H, rfl, hH, hl1160⟩
                · rintro l' s1183 ⟨x1150, H, hl, hH, hl1150⟩
                  generalize getL l' 11 = j11, getL l' 51 = j51, getL l' 52 = j52, getL l' 53 = j53, getL l' 54 = j54, getL l' 55 = j55, getL l' 56 = j56, getL l' 57 = j57, getL l' 58 = j58, getL l' 59 = j59, getL l' 60 = j60, getL l' 61 = j61, getL l' 62 = j62, getL l' 63 = j63, getL l' 64 = j64, getL l' 65 = j65, getL l' 66 = j66, getL l' 67 = j67, getL l' 68 = j68, getL l' 69 = j69 at hl
                  subst hl
                  replace H := hG1117 _ H
                  try dsimp only at H
                  refine hK1115 _ _ ?_
                  refine HT_seq_k ?_
                  intro K1184 hK1184
                  refine HT_region ?_
                  refine HL_cons rfl ?_
                  refine o_move ?_
                  try dsimp only [putL, setL, evL, getL]
                  refine HL_cons rfl ?_
                  refine o_move ?_
                  try dsimp only [putL, setL, evL, getL]
                  refine HL_cons rfl ?_
                  refine o_len rfl Try.underlying24 ?_
                  try dsimp only [putL, setL, evL, getL]
                  replace H := headE H
                  obtain ⟨u1185, hu1185, H⟩ := H
                  obtain ⟨b1185, o1185, cs1185, hA1185, hr1185, hh1185, hel1185⟩ := hH.elo 1 rfl hu1185
                  obtain rfl := hr1185
                  refine HL_cons rfl ?_
                  refine hel1185 s1183 (sliceLen hl1150) rfl Try.underlying24 tI3 ?_
                  try dsimp only [putL, setL, evL, getL]
                  refine HL_cons rfl ?_
                  refine o_load' rfl Try.underlying3 rfl (hh1185 0 _ rfl) ?_
                  try dsimp only [putL, setL, evL, getL]
                  refine HL_cons rfl ?_
                  refine o_move ?_
                  try dsimp only [putL, setL, evL, getL]
                  refine HL_cons rfl ?_
                  refine o_bin rfl rfl rfl ?_
                  try dsimp only [putL, setL, evL, getL]
                  refine HL_nil ?_
                  refine hK1184 _ _ ?_
                  rcases Bool.eq_false_or_eq_true (decide (u1185 ≤ p2)) with hb1186 | hb1186
                  · replace H := iteT hb1186 H
                    refine HT_true (congrArg Value.bool hb1186) ?_
                    refine HT_region ?_
                    refine HL_cons rfl ?_
                    refine o_move ?_
                    try dsimp only [putL, setL, evL, getL]
                    refine HL_cons rfl ?_
                    refine o_move ?_
                    try dsimp only [putL, setL, evL, getL]
                    refine HL_cons rfl ?_
                    refine o_litF (K := KI) (O := OI) (ca := #[.int .i64 x807]) [[.int .i64 x807]] [x807] hH Try.underlying24 tI3 rfl (by decide) rfl rfl (by kernel_rfl) rfl ⟨rfl, Ent.own (Ent.flat rfl), trivial⟩ ?_
                    intro A1187 s1187 hH' hG
                    replace hH : Hp sb s F0 s1187 [Ck.ol OI 3 A805 c805 x805, Ck.ol OI 3 A1105 c1105 x1150, Ck.ol OI 3 A1187 1 [x807]] := hH'
                    clear hH' hG
                    try dsimp only [putL, setL, evL, getL]
                    replace H := headE H
                    obtain ⟨x1188, hx1188, H⟩ := H
                    refine HL_cons rfl ?_
                    refine o_appF (K := KI) (n := 17592186044416) (A := A805) (c := c805) (xs := x805) (ys := [x807]) (B := A1187) (c2 := 1) hH 0 rfl rfl rfl rfl Try.underlying24 tI3 rfl (by decide) (by decide) (by decide) (Src.flat (hH.rd 2 rfl)) hx1188 ?_
                    intro A1188 c1188 s1188 hH'
                    replace hH : Hp sb s F0 s1188 [Ck.ol OI 3 A1188 c1188 x1188, Ck.ol OI 3 A1105 c1105 x1150, Ck.ol OI 3 A1187 1 [x807]] := hH'
                    clear hH'
                    try dsimp only [putL, setL, evL, getL]
                    refine HL_cons rfl ?_
                    refine o_assign ?_
                    try dsimp only [putL, setL, evL, getL]
                    refine HL_nil ?_
                    exact hK1004 _ _ ⟨x1188, A1188, c1188, x1150, A1105, c1105, H, (by first | (rw [hl1150]; first | done | rfl) | rfl), hH.sel [0, 1] (by decide)⟩
                  · replace H := iteF hb1186 H
                    refine HT_false (congrArg Value.bool hb1186) ?_
                    refine HT_skip ?_
                    exact hK1004 _ _ ⟨x805, A805, c805, x1150, A1105, c1105, H, (by first | (rw [hl1150]; first | done | rfl) | rfl), hH⟩
            · rintro l' s1189 ⟨x1096, A1096, c1096, x1097, A1097, c1097, H, hl, hH⟩
              generalize getL l' 10 = j10, getL l' 11 = j11, getL l' 36 = j36, getL l' 37 = j37, getL l' 38 = j38, getL l' 39 = j39, getL l' 40 = j40, getL l' 41 = j41, getL l' 42 = j42, getL l' 43 = j43, getL l' 44 = j44, getL l' 45 = j45, getL l' 46 = j46, getL l' 47 = j47, getL l' 48 = j48, getL l' 49 = j49, getL l' 50 = j50, getL l' 51 = j51, getL l' 52 = j52, getL l' 53 = j53, getL l' 54 = j54, getL l' 55 = j55, getL l' 56 = j56, getL l' 57 = j57, getL l' 58 = j58, getL l' 59 = j59, getL l' 60 = j60, getL l' 61 = j61, getL l' 62 = j62, getL l' 63 = j63, getL l' 64 = j64, getL l' 65 = j65, getL l' 66 = j66, getL l' 67 = j67, getL l' 68 = j68, getL l' 69 = j69, getL l' 70 = j70, getL l' 71 = j71, getL l' 72 = j72, getL l' 73 = j73, getL l' 74 = j74, getL l' 75 = j75, getL l' 76 = j76, getL l' 77 = j77, getL l' 78 = j78, getL l' 79 = j79, getL l' 80 = j80 at hl
              subst hl
              replace H := hG1004 _ H
              try dsimp only at H
              refine HT_region ?_
              refine HL_cons rfl ?_
              refine o_bin rfl rfl rfl ?_
              try dsimp only [putL, setL, evL, getL]
              refine HL_cons rfl ?_
              refine o_move ?_
              try dsimp only [putL, setL, evL, getL]
              refine HL_nil ?_
              exact hK1000 _ _ ⟨kf, Nat.lt_succ_self kf, x1096, A1096, c1096, x1097, A1097, c1097, IntKind.i64.wrap (x807 + 1), H, rfl, hH⟩
          · replace H := iteF hb1003 H
            refine HT_false (congrArg Value.bool hb1003) ?_
            refine HT_exit ?_
            exact hK40 _ _ ⟨x805, A805, c805, H, rfl, hH.sel [0] (by decide)⟩
      · rintro l' s1190 ⟨x615, A615, c615, H, hl, hH⟩
        generalize getL l' 9 = j9, getL l' 10 = j10, getL l' 11 = j11, getL l' 34 = j34, getL l' 35 = j35, getL l' 36 = j36, getL l' 37 = j37, getL l' 38 = j38, getL l' 39 = j39, getL l' 40 = j40, getL l' 41 = j41, getL l' 42 = j42, getL l' 43 = j43, getL l' 44 = j44, getL l' 45 = j45, getL l' 46 = j46, getL l' 47 = j47, getL l' 48 = j48, getL l' 49 = j49, getL l' 50 = j50, getL l' 51 = j51, getL l' 52 = j52, getL l' 53 = j53, getL l' 54 = j54, getL l' 55 = j55, getL l' 56 = j56, getL l' 57 = j57, getL l' 58 = j58, getL l' 59 = j59, getL l' 60 = j60, getL l' 61 = j61, getL l' 62 = j62, getL l' 63 = j63, getL l' 64 = j64, getL l' 65 = j65, getL l' 66 = j66, getL l' 67 = j67, getL l' 68 = j68, getL l' 69 = j69, getL l' 70 = j70, getL l' 71 = j71, getL l' 72 = j72, getL l' 73 = j73, getL l' 74 = j74, getL l' 75 = j75, getL l' 76 = j76, getL l' 77 = j77, getL l' 78 = j78, getL l' 79 = j79, getL l' 80 = j80, getL l' 81 = j81 at hl
        subst hl
        replace H := hG40 _ H
        try dsimp only at H
        refine hK38 _ _ ?_
        refine HT_seq_k ?_
        intro K1191 hK1191
        refine HT_region ?_
        refine HL_cons rfl ?_
        refine o_move ?_
        try dsimp only [putL, setL, evL, getL]
        refine HL_cons rfl ?_
        refine o_assign ?_
        try dsimp only [putL, setL, evL, getL]
        refine HL_cons rfl ?_
        refine o_assign ?_
        try dsimp only [putL, setL, evL, getL]
        refine HL_nil ?_
        refine hK1191 _ _ ?_
        refine HT_ret ?_
        exact hQr _ _ [.slice A615 x615.length c615, .bool true] ⟨rfl, rfl, trivial⟩ (retH (fun r => impl_NearEnds.post sb s F0 r _ _) (show some _ = some r from H) ⟨A615, c615, rfl, hH⟩)
def spec_NearEnds.l1 (p0 : List (Int)) (p1 : List (Int)) (p2 : Int) : Nat → (List (Int)) → (List (Int)) → Int → Option (List (Int))
  | 0, _, _, _ => none
  | kf + 1, x229, x230, x231 => if (decide (x231 ≤ (p1.length : Int))) = true then (((if (decide (x231 > 0)) = true then ((rd? p1 (IntKind.i64.wrap (x231 - 1))).bind fun u312 => (spec_l15Row.f x230 u312 p0 0).bind fun u313 => some u313) else (some x230)).bind fun (o : (List (Int))) => match o with | x309 => ((rd? x309 (p0.length : Int)).bind fun u317 => if (decide (u317 ≤ p2)) = true then ((app? 17592186044416 x229 [x231]).bind fun x320 => some (x320, x309)) else (some (x229, x309)))).bind fun (o : (List (Int)) × (List (Int))) => match o with | (x301, x302) => (spec_NearEnds.l1 p0 p1 p2 kf x301 x302 (IntKind.i64.wrap (x231 + 1)))) else (some x229)
def spec_NearEnds.f (p0 : List (Int)) (p1 : List (Int)) (p2 : Int) : Option ((List (Int)) × Bool) := ((spec_l15List.f p0).bind fun u29 => if (!u29) = true then (some true) else ((spec_l15List.f p1).bind fun u31 => if (!u31) = true then (some true) else (if ((p0.length : Int) == 0) = true then (some true) else ((spec_l1In.f p2 0 60).bind fun u34 => some (!u34))))).bind fun (o : Bool) => match o with | x28 => (if x28 = true then (some ([], false)) else ((spec_l15Numbers.f (IntKind.i64.wrap ((p0.length : Int) + 1))).bind fun u40 => (spec_NearEnds.l1 p0 p1 p2 ((((p1.length : Int)) - (0)).toNat + 2) [] u40 0).bind fun (o : (List (Int))) => match o with | x183 => (some (x183, true))))
def spec_NearEnds.post (sb s : St) (F0 : Fp) (r : (List (Int)) × Bool) : Value → St → Prop := fun v s' => ∃ (A0 : Option Addr) (c0 : Nat), v = .tuple #[.slice A0 r.1.length c0, .bool r.2] ∧ Hp sb s F0 s' [Ck.ol OI 3 A0 c0 r.1]
set_option maxRecDepth 100000 in
set_option maxHeartbeats 4000000 in
theorem spec_NearEnds.ok (sb s : St) (F0 : Fp) (A0p : Option Addr) (c0p : Nat) (p0 : List (Int)) (A1p : Option Addr) (c1p : Nat) (p1 : List (Int)) (p2 : Int) (HRp0 : Rd KI sb A0p c0p p0) (HRp1 : Rd KI sb A1p c1p p1) (hH : Hp sb s F0 s []) (r : (List (Int)) × Bool) (H : spec_NearEnds.f p0 p1 p2 = some r) : GCall Try.prog 22 #[.slice A0p p0.length c0p, .slice A1p p1.length c1p, .int .i64 p2] s (spec_NearEnds.post sb s F0 r) := by
  refine GCall_ofk [.tmp 6, .tmp 7] [.slice A0p p0.length c0p, .slice A1p p1.length c1p, .int .i64 p2, undef, undef, undef, undef, undef, undef, undef, undef, undef, undef, undef, undef, undef, undef, undef, undef, undef, undef, undef, undef, undef, undef, undef, undef, undef, undef, undef, undef, undef, undef, undef, undef, undef, undef, undef, undef, undef, undef, undef, undef, undef, undef, undef, undef, undef, undef, undef, undef, undef, undef, undef, undef, undef, undef, undef, undef, undef, undef] Try.func22 rfl rfl rfl ?_
  intro w Q hQr hQn hQp
  replace H := topE H
  unfold spec_NearEnds.f at H
  refine HT_seq_k ?_
  intro K1 hK1
  refine HT_region ?_
  refine HL_cons rfl ?_
  refine o_assign ?_
  try dsimp only [putL, setL, evL, getL]
  refine HL_cons rfl ?_
  refine o_assign ?_
  try dsimp only [putL, setL, evL, getL]
  refine HL_nil ?_
  refine hK1 _ _ ?_
  refine HT_seq_k ?_
  intro K20 hK20
  refine joinH H fun G21 hG21 H => ?_
  refine HT_joinK (fun l' s' => ∃ (x28 : Bool), G21 x28 = some r ∧ l' = [.slice A0p p0.length c0p, .slice A1p p1.length c1p, .int .i64 p2, undef, undef, undef, .slice none 0 0, .bool false, undef, undef, undef, getL l' 11, getL l' 12, getL l' 13, getL l' 14, getL l' 15, getL l' 16, getL l' 17, getL l' 18, getL l' 19, getL l' 20, getL l' 21, getL l' 22, getL l' 23, getL l' 24, getL l' 25, getL l' 26, getL l' 27, .bool x28, undef, undef, undef, undef, undef, undef, undef, undef, undef, undef, undef, undef, undef, undef, undef, undef, undef, undef, undef, undef, undef, undef, undef, undef, undef, undef, undef, undef, undef, undef, undef, undef] ∧ Hp sb s F0 s' []) ?_ ?_
  · intro K21 hK21
    refine HT_region ?_
    refine HL_cons rfl ?_
    refine o_move ?_
    try dsimp only [putL, setL, evL, getL]
    replace H := headE H
    obtain ⟨u29, hu29, H⟩ := H
    refine HL_cons rfl ?_
    refine o_call (args := #[.slice A0p p0.length c0p]) Try.func101 rfl rfl rfl (spec_l15List.ok sb s no A0p c0p p0 HRp0 (Hp.own hH.bs) _ hu29) ?_
    rintro _ s29 ⟨rfl, hD⟩
    replace hH := hH.back0 hD (Up.refl _ _ _)
    clear hD
    dsimp only [addC, setC, rmC, selC, getC] at hH
    try dsimp only [putL, setL, evL, getL]
    refine HL_cons rfl ?_
    refine o_not rfl ?_
    try dsimp only [putL, setL, evL, getL]
    refine HL_cons rfl ?_
    refine o_move ?_
    try dsimp only [putL, setL, evL, getL]
    rcases Bool.eq_false_or_eq_true (!u29) with hb30 | hb30
    · replace H := iteT hb30 H
      refine HL_skip ?_ ?_
      · exact wantF (j := 3) (b := false) (t := 14) (c := !u29) rfl rfl rfl rfl hb30
      try dsimp only [putL, setL, evL, getL]
      refine HL_skip ?_ ?_
      · exact wantF (j := 3) (b := false) (t := 14) (c := !u29) rfl rfl rfl rfl hb30
      try dsimp only [putL, setL, evL, getL]
      refine HL_skip ?_ ?_
      · exact wantF (j := 3) (b := false) (t := 14) (c := !u29) rfl rfl rfl rfl hb30
      try dsimp only [putL, setL, evL, getL]
      refine HL_cons rfl ?_
      refine o_pickT rfl hb30 ?_
      try dsimp only [putL, setL, evL, getL]
      refine HL_cons rfl ?_
      refine o_move ?_
      try dsimp only [putL, setL, evL, getL]
      refine HL_skip ?_ ?_
      · exact wantF (j := 8) (b := false) (t := 19) (c := true) rfl rfl rfl rfl rfl
      try dsimp only [putL, setL, evL, getL]
      refine HL_skip ?_ ?_
      · exact wantF (j := 8) (b := false) (t := 19) (c := true) rfl rfl rfl rfl rfl
      try dsimp only [putL, setL, evL, getL]
      refine HL_skip ?_ ?_
      · exact wantF (j := 8) (b := false) (t := 19) (c := true) rfl rfl rfl rfl rfl
      try dsimp only [putL, setL, evL, getL]
      refine HL_cons rfl ?_
      refine o_pickT rfl rfl ?_
      try dsimp only [putL, setL, evL, getL]
      refine HL_cons rfl ?_
      refine o_move ?_
      try dsimp only [putL, setL, evL, getL]
      refine HL_skip ?_ ?_
      · exact wantF (j := 13) (b := false) (t := 24) (c := true) rfl rfl rfl rfl rfl
      try dsimp only [putL, setL, evL, getL]
      refine HL_skip ?_ ?_
      · exact wantF (j := 13) (b := false) (t := 24) (c := true) rfl rfl rfl rfl rfl
      try dsimp only [putL, setL, evL, getL]
      refine HL_skip ?_ ?_
      · exact wantF (j := 13) (b := false) (t := 24) (c := true) rfl rfl rfl rfl rfl
      try dsimp only [putL, setL, evL, getL]
      refine HL_cons rfl ?_
      refine o_pickT rfl rfl ?_
      try dsimp only [putL, setL, evL, getL]
      refine HL_nil ?_
      exact hK21 _ _ ⟨true, H, rfl, hH⟩
    · replace H := iteF hb30 H
      refine HL_want ?_ ?_
      · exact wantT (j := 3) (b := false) (t := 14) (c := !u29) rfl rfl rfl rfl hb30
      refine o_move ?_
      try dsimp only [putL, setL, evL, getL]
      replace H := headE H
      obtain ⟨u31, hu31, H⟩ := H
      refine HL_want ?_ ?_
      · exact wantT (j := 3) (b := false) (t := 14) (c := !u29) rfl rfl rfl rfl hb30
      refine o_call (args := #[.slice A1p p1.length c1p]) Try.func101 rfl rfl rfl (spec_l15List.ok sb s29 no A1p c1p p1 HRp1 (Hp.own hH.bs) _ hu31) ?_
      rintro _ s31 ⟨rfl, hD⟩
      replace hH := hH.back0 hD (Up.refl _ _ _)
      clear hD
      dsimp only [addC, setC, rmC, selC, getC] at hH
      try dsimp only [putL, setL, evL, getL]
      refine HL_want ?_ ?_
      · exact wantT (j := 3) (b := false) (t := 14) (c := !u29) rfl rfl rfl rfl hb30
      refine o_not rfl ?_
      try dsimp only [putL, setL, evL, getL]
      refine HL_cons rfl ?_
      refine o_pickF rfl hb30 ?_
      try dsimp only [putL, setL, evL, getL]
      refine HL_cons rfl ?_
      refine o_move ?_
      try dsimp only [putL, setL, evL, getL]
      rcases Bool.eq_false_or_eq_true (!u31) with hb32 | hb32
      · replace H := iteT hb32 H
        refine HL_skip ?_ ?_
        · exact wantF (j := 8) (b := false) (t := 19) (c := !u31) rfl rfl rfl rfl hb32
        try dsimp only [putL, setL, evL, getL]
        refine HL_skip ?_ ?_
        · exact wantF (j := 8) (b := false) (t := 19) (c := !u31) rfl rfl rfl rfl hb32
        try dsimp only [putL, setL, evL, getL]
        refine HL_skip ?_ ?_
        · exact wantF (j := 8) (b := false) (t := 19) (c := !u31) rfl rfl rfl rfl hb32
        try dsimp only [putL, setL, evL, getL]
        refine HL_cons rfl ?_
        refine o_pickT rfl hb32 ?_
        try dsimp only [putL, setL, evL, getL]
        refine HL_cons rfl ?_
        refine o_move ?_
        try dsimp only [putL, setL, evL, getL]
        refine HL_skip ?_ ?_
        · exact wantF (j := 13) (b := false) (t := 24) (c := true) rfl rfl rfl rfl rfl
        try dsimp only [putL, setL, evL, getL]
        refine HL_skip ?_ ?_
        · exact wantF (j := 13) (b := false) (t := 24) (c := true) rfl rfl rfl rfl rfl
        try dsimp only [putL, setL, evL, getL]
        refine HL_skip ?_ ?_
        · exact wantF (j := 13) (b := false) (t := 24) (c := true) rfl rfl rfl rfl rfl
        try dsimp only [putL, setL, evL, getL]
        refine HL_cons rfl ?_
        refine o_pickT rfl rfl ?_
        try dsimp only [putL, setL, evL, getL]
        refine HL_nil ?_
        exact hK21 _ _ ⟨true, H, rfl, hH⟩
      · replace H := iteF hb32 H
        refine HL_want ?_ ?_
        · exact wantT (j := 8) (b := false) (t := 19) (c := !u31) rfl rfl rfl rfl hb32
        refine o_move ?_
        try dsimp only [putL, setL, evL, getL]
        refine HL_want ?_ ?_
        · exact wantT (j := 8) (b := false) (t := 19) (c := !u31) rfl rfl rfl rfl hb32
        refine o_len rfl Try.underlying24 ?_
        try dsimp only [putL, setL, evL, getL]
        refine HL_want ?_ ?_
        · exact wantT (j := 8) (b := false) (t := 19) (c := !u31) rfl rfl rfl rfl hb32
        refine o_bin rfl rfl rfl ?_
        try dsimp only [putL, setL, evL, getL]
        refine HL_cons rfl ?_
        refine o_pickF rfl hb32 ?_
        try dsimp only [putL, setL, evL, getL]
        refine HL_cons rfl ?_
        refine o_move ?_
        try dsimp only [putL, setL, evL, getL]
        rcases Bool.eq_false_or_eq_true ((p0.length : Int) == 0) with hb33 | hb33
        · replace H := iteT hb33 H
          refine HL_skip ?_ ?_
          · exact wantF (j := 13) (b := false) (t := 24) (c := (p0.length : Int) == 0) rfl rfl rfl rfl hb33
          try dsimp only [putL, setL, evL, getL]
          refine HL_skip ?_ ?_
          · exact wantF (j := 13) (b := false) (t := 24) (c := (p0.length : Int) == 0) rfl rfl rfl rfl hb33
          try dsimp only [putL, setL, evL, getL]
          refine HL_skip ?_ ?_
          · exact wantF (j := 13) (b := false) (t := 24) (c := (p0.length : Int) == 0) rfl rfl rfl rfl hb33
          try dsimp only [putL, setL, evL, getL]
          refine HL_cons rfl ?_
          refine o_pickT rfl hb33 ?_
          try dsimp only [putL, setL, evL, getL]
          refine HL_nil ?_
          exact hK21 _ _ ⟨true, H, rfl, hH⟩
        · replace H := iteF hb33 H
          refine HL_want ?_ ?_
          · exact wantT (j := 13) (b := false) (t := 24) (c := (p0.length : Int) == 0) rfl rfl rfl rfl hb33
          refine o_move ?_
          try dsimp only [putL, setL, evL, getL]
          replace H := headE H
          obtain ⟨u34, hu34, H⟩ := H
          refine HL_want ?_ ?_
          · exact wantT (j := 13) (b := false) (t := 24) (c := (p0.length : Int) == 0) rfl rfl rfl rfl hb33
          refine o_call (args := #[.int .i64 p2, .int .i64 0, .int .i64 60]) Try.func108 rfl rfl rfl (spec_l1In.ok sb s31 no p2 0 60 (Hp.own hH.bs) _ hu34) ?_
          rintro _ s34 ⟨rfl, hD⟩
          replace hH := hH.back0 hD (Up.refl _ _ _)
          clear hD
          dsimp only [addC, setC, rmC, selC, getC] at hH
          try dsimp only [putL, setL, evL, getL]
          refine HL_want ?_ ?_
          · exact wantT (j := 13) (b := false) (t := 24) (c := (p0.length : Int) == 0) rfl rfl rfl rfl hb33
          refine o_not rfl ?_
          try dsimp only [putL, setL, evL, getL]
          refine HL_cons rfl ?_
          refine o_pickF rfl hb33 ?_
          try dsimp only [putL, setL, evL, getL]
          refine HL_nil ?_
          exact hK21 _ _ ⟨!u34, H, rfl, hH⟩
  · rintro l' s35 ⟨x28, H, hl, hH⟩
    generalize getL l' 11 = j11, getL l' 12 = j12, getL l' 13 = j13, getL l' 14 = j14, getL l' 15 = j15, getL l' 16 = j16, getL l' 17 = j17, getL l' 18 = j18, getL l' 19 = j19, getL l' 20 = j20, getL l' 21 = j21, getL l' 22 = j22, getL l' 23 = j23, getL l' 24 = j24, getL l' 25 = j25, getL l' 26 = j26, getL l' 27 = j27 at hl
    subst hl
    replace H := hG21 _ H
    try dsimp only at H
    rcases Bool.eq_false_or_eq_true x28 with hb36 | hb36
    · replace H := iteT hb36 H
      refine HT_true (congrArg Value.bool hb36) ?_
      refine HT_seq_k ?_
      intro K37 hK37
      refine HT_region ?_
      refine HL_cons rfl ?_
      refine o_assign ?_
      try dsimp only [putL, setL, evL, getL]
      refine HL_cons rfl ?_
      refine o_assign ?_
      try dsimp only [putL, setL, evL, getL]
      refine HL_nil ?_
      refine hK37 _ _ ?_
      refine HT_ret ?_
      exact hQr _ _ [.slice none 0 0, .bool false] ⟨rfl, rfl, trivial⟩ (retH (fun r => spec_NearEnds.post sb s F0 r _ _) (show some _ = some r from H) ⟨none, 0, rfl, (hH.nil (K := KI) OI 3)⟩)
    · replace H := iteF hb36 H
      refine HT_false (congrArg Value.bool hb36) ?_
      refine HT_skip ?_
      refine hK20 _ _ ?_
      refine HT_seq_k ?_
      intro K38 hK38
      refine HT_region ?_
      refine HL_cons rfl ?_
      refine o_assign ?_
      try dsimp only [putL, setL, evL, getL]
      refine HL_nil ?_
      refine hK38 _ _ ?_
      refine HT_seq_k ?_
      intro K39 hK39
      refine HT_region ?_
      refine HL_cons rfl ?_
      refine o_move ?_
      try dsimp only [putL, setL, evL, getL]
      refine HL_cons rfl ?_
      refine o_len rfl Try.underlying24 ?_
      try dsimp only [putL, setL, evL, getL]
      refine HL_cons rfl ?_
      refine o_bin rfl rfl rfl ?_
      try dsimp only [putL, setL, evL, getL]
      replace H := headE H
      obtain ⟨u40, hu40, H⟩ := H
      refine HL_cons rfl ?_
      refine o_call (args := #[.int .i64 (IntKind.i64.wrap ((p0.length : Int) + 1))]) Try.func109 rfl rfl rfl (spec_l15Numbers.ok sb s35 no (IntKind.i64.wrap ((p0.length : Int) + 1)) (Hp.own hH.bs) _ hu40) ?_
      rintro _ s40 ⟨A41, c41, rfl, hD⟩
      replace hH := hH.back0 hD (Up.refl _ _ _)
      clear hD
      dsimp only [addC, setC, rmC, selC, getC] at hH
      try dsimp only [putL, setL, evL, getL]
      refine HL_cons rfl ?_
      refine o_assign ?_
      try dsimp only [putL, setL, evL, getL]
      refine HL_nil ?_
      refine hK39 _ _ ?_
      refine HT_seq_k ?_
      intro K42 hK42
      refine HT_seq_k ?_
      intro K43 hK43
      refine HT_region ?_
      refine HL_cons rfl ?_
      refine o_assign ?_
      try dsimp only [putL, setL, evL, getL]
      refine HL_nil ?_
      refine hK43 _ _ ?_
      refine joinH H fun G44 hG44 H => ?_
      refine HT_toK (fun l' s' => ∃ (x183 : List (Int)) (A183 : Option Addr) (c183 : Nat), G44 x183 = some r ∧ l' = [.slice A0p p0.length c0p, .slice A1p p1.length c1p, .int .i64 p2, undef, undef, undef, .slice none 0 0, .bool false, .slice A183 x183.length c183, getL l' 9, getL l' 10, j11, j12, j13, j14, j15, j16, j17, j18, j19, j20, j21, j22, j23, j24, j25, j26, j27, .bool x28, .slice A0p p0.length c0p, .int .i64 (p0.length : Int), .int .i64 (IntKind.i64.wrap ((p0.length : Int) + 1)), .slice A41 u40.length c41, getL l' 33, getL l' 34, getL l' 35, getL l' 36, getL l' 37, getL l' 38, getL l' 39, getL l' 40, getL l' 41, getL l' 42, getL l' 43, getL l' 44, getL l' 45, getL l' 46, getL l' 47, getL l' 48, getL l' 49, getL l' 50, getL l' 51, getL l' 52, getL l' 53, getL l' 54, getL l' 55, getL l' 56, getL l' 57, getL l' 58, getL l' 59, undef] ∧ Hp sb s F0 s' [Ck.ol OI 3 A183 c183 x183]) ?_ ?_
      · intro K44 hK44
        refine HT_block ?_
        refine HT_loopK (fun kf l' s' => ∃ (x229 : List (Int)) (A229 : Option Addr) (c229 : Nat) (x230 : List (Int)) (A230 : Option Addr) (c230 : Nat) (x231 : Int), (spec_NearEnds.l1 p0 p1 p2 kf x229 x230 x231).bind G44 = some r ∧ l' = [.slice A0p p0.length c0p, .slice A1p p1.length c1p, .int .i64 p2, undef, undef, undef, .slice none 0 0, .bool false, .slice A229 x229.length c229, .slice A230 x230.length c230, .int .i64 x231, j11, j12, j13, j14, j15, j16, j17, j18, j19, j20, j21, j22, j23, j24, j25, j26, j27, .bool x28, .slice A0p p0.length c0p, .int .i64 (p0.length : Int), .int .i64 (IntKind.i64.wrap ((p0.length : Int) + 1)), .slice A41 u40.length c41, getL l' 33, getL l' 34, getL l' 35, getL l' 36, getL l' 37, getL l' 38, getL l' 39, getL l' 40, getL l' 41, getL l' 42, getL l' 43, getL l' 44, getL l' 45, getL l' 46, getL l' 47, getL l' 48, getL l' 49, getL l' 50, getL l' 51, getL l' 52, getL l' 53, getL l' 54, getL l' 55, getL l' 56, getL l' 57, getL l' 58, getL l' 59, undef] ∧ Hp sb s F0 s' [Ck.ol OI 3 A229 c229 x229, Ck.ol OI 3 A230 c230 x230]) ((((p1.length : Int)) - (0)).toNat + 2) ⟨[], none, 0, u40, A41, c41, 0, H, rfl, (hH.nil (K := KI) OI 3).sel [1, 0] (by decide)⟩ ?_
        rintro kf l' s278 ⟨x229, A229, c229, x230, A230, c230, x231, H, hl, hH⟩ K278 hK278
        generalize getL l' 33 = j33, getL l' 34 = j34, getL l' 35 = j35, getL l' 36 = j36, getL l' 37 = j37, getL l' 38 = j38, getL l' 39 = j39, getL l' 40 = j40, getL l' 41 = j41, getL l' 42 = j42, getL l' 43 = j43, getL l' 44 = j44, getL l' 45 = j45, getL l' 46 = j46, getL l' 47 = j47, getL l' 48 = j48, getL l' 49 = j49, getL l' 50 = j50, getL l' 51 = j51, getL l' 52 = j52, getL l' 53 = j53, getL l' 54 = j54, getL l' 55 = j55, getL l' 56 = j56, getL l' 57 = j57, getL l' 58 = j58, getL l' 59 = j59 at hl
        subst hl
        cases kf with
        | zero => simp [spec_NearEnds.l1] at H
        | succ kf =>
          rw [spec_NearEnds.l1] at H
          refine HT_seq_k ?_
          intro K279 hK279
          refine HT_seq_k ?_
          intro K280 hK280
          refine HT_region ?_
          refine HL_cons rfl ?_
          refine o_move ?_
          try dsimp only [putL, setL, evL, getL]
          refine HL_cons rfl ?_
          refine o_move ?_
          try dsimp only [putL, setL, evL, getL]
          refine HL_cons rfl ?_
          refine o_len rfl Try.underlying24 ?_
          try dsimp only [putL, setL, evL, getL]
          refine HL_cons rfl ?_
          refine o_bin rfl rfl rfl ?_
          try dsimp only [putL, setL, evL, getL]
          refine HL_nil ?_
          refine hK280 _ _ ?_
          rcases Bool.eq_false_or_eq_true (decide (x231 ≤ (p1.length : Int))) with hb281 | hb281
          · replace H := iteT hb281 H
            refine HT_true (congrArg Value.bool hb281) ?_
            refine HT_skip ?_
            refine hK279 _ _ ?_
            refine joinH H fun G282 hG282 H => ?_
            refine HT_joinK (fun l' s' => ∃ (x301 : List (Int)) (A301 : Option Addr) (c301 : Nat) (x302 : List (Int)) (A302 : Option Addr) (c302 : Nat), G282 (x301, x302) = some r ∧ l' = [.slice A0p p0.length c0p, .slice A1p p1.length c1p, .int .i64 p2, undef, undef, undef, .slice none 0 0, .bool false, .slice A301 x301.length c301, .slice A302 x302.length c302, .int .i64 x231, j11, j12, j13, j14, j15, j16, j17, j18, j19, j20, j21, j22, j23, j24, j25, j26, j27, .bool x28, .slice A0p p0.length c0p, .int .i64 (p0.length : Int), .int .i64 (IntKind.i64.wrap ((p0.length : Int) + 1)), .slice A41 u40.length c41, .int .i64 x231, .slice A1p p1.length c1p, .int .i64 (p1.length : Int), .bool (decide (x231 ≤ (p1.length : Int))), j37, j38, getL l' 39, getL l' 40, getL l' 41, getL l' 42, getL l' 43, getL l' 44, getL l' 45, getL l' 46, getL l' 47, getL l' 48, getL l' 49, getL l' 50, getL l' 51, getL l' 52, getL l' 53, getL l' 54, getL l' 55, getL l' 56, getL l' 57, getL l' 58, getL l' 59, undef] ∧ Hp sb s F0 s' [Ck.ol OI 3 A301 c301 x301, Ck.ol OI 3 A302 c302 x302]) ?_ ?_
            · intro K282 hK282
              refine HT_block ?_
              refine joinH H fun G303 hG303 H => ?_
              refine HT_joinK (fun l' s' => ∃ (x309 : List (Int)) (A309 : Option Addr) (c309 : Nat), G303 x309 = some r ∧ l' = [.slice A0p p0.length c0p, .slice A1p p1.length c1p, .int .i64 p2, undef, undef, undef, .slice none 0 0, .bool false, .slice A229 x229.length c229, .slice A309 x309.length c309, .int .i64 x231, j11, j12, j13, j14, j15, j16, j17, j18, j19, j20, j21, j22, j23, j24, j25, j26, j27, .bool x28, .slice A0p p0.length c0p, .int .i64 (p0.length : Int), .int .i64 (IntKind.i64.wrap ((p0.length : Int) + 1)), .slice A41 u40.length c41, .int .i64 x231, .slice A1p p1.length c1p, .int .i64 (p1.length : Int), .bool (decide (x231 ≤ (p1.length : Int))), j37, j38, getL l' 39, getL l' 40, getL l' 41, getL l' 42, getL l' 43, getL l' 44, getL l' 45, getL l' 46, getL l' 47, getL l' 48, j49, j50, j51, j52, j53, j54, j55, j56, j57, j58, j59, undef] ∧ Hp sb s F0 s' [Ck.ol OI 3 A309 c309 x309, Ck.ol OI 3 A229 c229 x229]) ?_ ?_
              · intro K303 hK303
                refine HT_seq_k ?_
                intro K310 hK310
                refine HT_region ?_
                refine HL_cons rfl ?_
                refine o_move ?_
                try dsimp only [putL, setL, evL, getL]
                refine HL_cons rfl ?_
                refine o_bin rfl rfl rfl ?_
                try dsimp only [putL, setL, evL, getL]
                refine HL_nil ?_
                refine hK310 _ _ ?_
                rcases Bool.eq_false_or_eq_true (decide (x231 > 0)) with hb311 | hb311
                · replace H := iteT hb311 H
                  refine HT_true (congrArg Value.bool hb311) ?_
                  refine HT_region ?_
                  refine HL_cons rfl ?_
                  refine o_move ?_
                  try dsimp only [putL, setL, evL, getL]
                  refine HL_cons rfl ?_
                  refine o_move ?_
                  try dsimp only [putL, setL, evL, getL]
                  refine HL_cons rfl ?_
                  refine o_move ?_
                  try dsimp only [putL, setL, evL, getL]
                  refine HL_cons rfl ?_
                  refine o_bin rfl rfl rfl ?_
                  try dsimp only [putL, setL, evL, getL]
                  replace H := headE H
                  obtain ⟨u312, hu312, H⟩ := H
                  obtain ⟨b312, o312, cs312, hr312, hh312, hel312⟩ := Rd.elb HRp1 hu312
                  obtain rfl := hr312
                  refine HL_cons rfl ?_
                  refine hel312 s278 rfl rfl Try.underlying24 tI3 ?_
                  try dsimp only [putL, setL, evL, getL]
                  refine HL_cons rfl ?_
                  refine o_load' rfl Try.underlying3 rfl ((hh312 hH.bs.mono) 0 _ rfl) ?_
                  try dsimp only [putL, setL, evL, getL]
                  refine HL_cons rfl ?_
                  refine o_move ?_
                  try dsimp only [putL, setL, evL, getL]
                  replace H := headE H
                  obtain ⟨u313, hu313, H⟩ := H
                  refine HL_cons rfl ?_
                  refine o_call (args := #[.slice A230 x230.length c230, .int .i64 u312, .slice A0p p0.length c0p, .int .i64 0]) Try.func110 rfl rfl rfl (spec_l15Row.ok s278 s278 no A230 c230 x230 u312 A0p c0p p0 0 (hH.rd 1 rfl) (HRp0.mono hH.bs.mono) (Hp.own (Bs.refl s278)) _ hu313) ?_
                  rintro _ s313 ⟨A314, c314, rfl, hD⟩
                  replace hH := hH.back0T hD
                  clear hD
                  dsimp only [addC, setC, rmC, selC, getC] at hH
                  try dsimp only [putL, setL, evL, getL]
                  refine HL_cons rfl ?_
                  refine o_assign ?_
                  try dsimp only [putL, setL, evL, getL]
                  refine HL_nil ?_
                  exact hK303 _ _ ⟨u313, A314, c314, H, rfl, hH.sel [2, 0] (by decide)⟩
                · replace H := iteF hb311 H
                  refine HT_false (congrArg Value.bool hb311) ?_
                  refine HT_skip ?_
                  exact hK303 _ _ ⟨x230, A230, c230, H, rfl, hH.sel [1, 0] (by decide)⟩
              · rintro l' s315 ⟨x309, A309, c309, H, hl, hH⟩
                generalize getL l' 39 = j39, getL l' 40 = j40, getL l' 41 = j41, getL l' 42 = j42, getL l' 43 = j43, getL l' 44 = j44, getL l' 45 = j45, getL l' 46 = j46, getL l' 47 = j47, getL l' 48 = j48 at hl
                subst hl
                replace H := hG303 _ H
                try dsimp only at H
                refine HT_seq_k ?_
                intro K316 hK316
                refine HT_region ?_
                refine HL_cons rfl ?_
                refine o_move ?_
                try dsimp only [putL, setL, evL, getL]
                refine HL_cons rfl ?_
                refine o_move ?_
                try dsimp only [putL, setL, evL, getL]
                refine HL_cons rfl ?_
                refine o_len rfl Try.underlying24 ?_
                try dsimp only [putL, setL, evL, getL]
                replace H := headE H
                obtain ⟨u317, hu317, H⟩ := H
                obtain ⟨b317, o317, cs317, hA317, hr317, hh317, hel317⟩ := hH.elo 0 rfl hu317
                obtain rfl := hr317
                refine HL_cons rfl ?_
                refine hel317 s315 rfl rfl Try.underlying24 tI3 ?_
                try dsimp only [putL, setL, evL, getL]
                refine HL_cons rfl ?_
                refine o_load' rfl Try.underlying3 rfl (hh317 0 _ rfl) ?_
                try dsimp only [putL, setL, evL, getL]
                refine HL_cons rfl ?_
                refine o_move ?_
                try dsimp only [putL, setL, evL, getL]
                refine HL_cons rfl ?_
                refine o_bin rfl rfl rfl ?_
                try dsimp only [putL, setL, evL, getL]
                refine HL_nil ?_
                refine hK316 _ _ ?_
                rcases Bool.eq_false_or_eq_true (decide (u317 ≤ p2)) with hb318 | hb318
                · replace H := iteT hb318 H
                  refine HT_true (congrArg Value.bool hb318) ?_
                  refine HT_region ?_
                  refine HL_cons rfl ?_
                  refine o_move ?_
                  try dsimp only [putL, setL, evL, getL]
                  refine HL_cons rfl ?_
                  refine o_move ?_
                  try dsimp only [putL, setL, evL, getL]
                  refine HL_cons rfl ?_
                  refine o_litF (K := KI) (O := OI) (ca := #[.int .i64 x231]) [[.int .i64 x231]] [x231] hH Try.underlying24 tI3 rfl (by decide) rfl rfl (by kernel_rfl) rfl ⟨rfl, Ent.own (Ent.flat rfl), trivial⟩ ?_
                  intro A319 s319 hH' hG
                  replace hH : Hp sb s F0 s319 [Ck.ol OI 3 A309 c309 x309, Ck.ol OI 3 A229 c229 x229, Ck.ol OI 3 A319 1 [x231]] := hH'
                  clear hH' hG
                  try dsimp only [putL, setL, evL, getL]
                  replace H := headE H
                  obtain ⟨x320, hx320, H⟩ := H
                  refine HL_cons rfl ?_
                  refine o_appF (K := KI) (n := 17592186044416) (A := A229) (c := c229) (xs := x229) (ys := [x231]) (B := A319) (c2 := 1) hH 1 rfl rfl rfl rfl Try.underlying24 tI3 rfl (by decide) (by decide) (by decide) (Src.flat (hH.rd 2 rfl)) hx320 ?_
                  intro A320 c320 s320 hH'
                  replace hH : Hp sb s F0 s320 [Ck.ol OI 3 A309 c309 x309, Ck.ol OI 3 A320 c320 x320, Ck.ol OI 3 A319 1 [x231]] := hH'
                  clear hH'
                  try dsimp only [putL, setL, evL, getL]
                  refine HL_cons rfl ?_
                  refine o_assign ?_
                  try dsimp only [putL, setL, evL, getL]
                  refine HL_nil ?_
                  exact hK282 _ _ ⟨x320, A320, c320, x309, A309, c309, H, rfl, hH.sel [1, 0] (by decide)⟩
                · replace H := iteF hb318 H
                  refine HT_false (congrArg Value.bool hb318) ?_
                  refine HT_skip ?_
                  exact hK282 _ _ ⟨x229, A229, c229, x309, A309, c309, H, rfl, hH.sel [1, 0] (by decide)⟩
            · rintro l' s321 ⟨x301, A301, c301, x302, A302, c302, H, hl, hH⟩
              generalize getL l' 39 = j39, getL l' 40 = j40, getL l' 41 = j41, getL l' 42 = j42, getL l' 43 = j43, getL l' 44 = j44, getL l' 45 = j45, getL l' 46 = j46, getL l' 47 = j47, getL l' 48 = j48, getL l' 49 = j49, getL l' 50 = j50, getL l' 51 = j51, getL l' 52 = j52, getL l' 53 = j53, getL l' 54 = j54, getL l' 55 = j55, getL l' 56 = j56, getL l' 57 = j57, getL l' 58 = j58, getL l' 59 = j59 at hl
              subst hl
              replace H := hG282 _ H
              try dsimp only at H
              refine HT_region ?_
              refine HL_cons rfl ?_
              refine o_move ?_
              try dsimp only [putL, setL, evL, getL]
              refine HL_cons rfl ?_
              refine o_bin rfl rfl rfl ?_
              try dsimp only [putL, setL, evL, getL]
              refine HL_cons rfl ?_
              refine o_assign ?_
              try dsimp only [putL, setL, evL, getL]
              refine HL_nil ?_
              exact hK278 _ _ ⟨kf, Nat.lt_succ_self kf, x301, A301, c301, x302, A302, c302, IntKind.i64.wrap (x231 + 1), H, rfl, hH⟩
          · replace H := iteF hb281 H
            refine HT_false (congrArg Value.bool hb281) ?_
            refine HT_exit ?_
            exact hK44 _ _ ⟨x229, A229, c229, H, rfl, hH.sel [0] (by decide)⟩
      · rintro l' s322 ⟨x183, A183, c183, H, hl, hH⟩
        generalize getL l' 9 = j9, getL l' 10 = j10, getL l' 33 = j33, getL l' 34 = j34, getL l' 35 = j35, getL l' 36 = j36, getL l' 37 = j37, getL l' 38 = j38, getL l' 39 = j39, getL l' 40 = j40, getL l' 41 = j41, getL l' 42 = j42, getL l' 43 = j43, getL l' 44 = j44, getL l' 45 = j45, getL l' 46 = j46, getL l' 47 = j47, getL l' 48 = j48, getL l' 49 = j49, getL l' 50 = j50, getL l' 51 = j51, getL l' 52 = j52, getL l' 53 = j53, getL l' 54 = j54, getL l' 55 = j55, getL l' 56 = j56, getL l' 57 = j57, getL l' 58 = j58, getL l' 59 = j59 at hl
        subst hl
        replace H := hG44 _ H
        try dsimp only at H
        refine hK42 _ _ ?_
        refine HT_seq_k ?_
        intro K323 hK323
        refine HT_region ?_
        refine HL_cons rfl ?_
        refine o_move ?_
        try dsimp only [putL, setL, evL, getL]
        refine HL_cons rfl ?_
        refine o_assign ?_
        try dsimp only [putL, setL, evL, getL]
        refine HL_cons rfl ?_
        refine o_assign ?_
        try dsimp only [putL, setL, evL, getL]
        refine HL_nil ?_
        refine hK323 _ _ ?_
        refine HT_ret ?_
        exact hQr _ _ [.slice A183 x183.length c183, .bool true] ⟨rfl, rfl, trivial⟩ (retH (fun r => spec_NearEnds.post sb s F0 r _ _) (show some _ = some r from H) ⟨A183, c183, rfl, hH⟩)
def laws_has.l1 (p0 : List (Int)) (p1 : Int) : Nat → Int → Option (Lo Unit Bool)
  | 0, _ => none
  | kf + 1, x44 => if (decide (x44 < (p0.length : Int))) = true then ((rd? p0 x44).bind fun u61 => if (u61 == p1) = true then ((some true).bind fun z => some (Lo.ret z)) else (laws_has.l1 p0 p1 kf (IntKind.i64.wrap (x44 + 1)))) else (some (Lo.go ()))
def laws_has.f (p0 : List (Int)) (p1 : Int) : Option Bool := (laws_has.l1 p0 p1 ((((p0.length : Int)) - (0)).toNat + 2) 0).bind fun (o : Lo Unit Bool) => match o with | .go () => (some false) | .ret z => some z
def laws_has.post (sb s : St) (F0 : Fp) (r : Bool) : Value → St → Prop := fun v s' => v = .bool r ∧ Hp sb s F0 s' []
set_option maxRecDepth 100000 in
set_option maxHeartbeats 4000000 in
theorem laws_has.ok (sb s : St) (F0 : Fp) (A0p : Option Addr) (c0p : Nat) (p0 : List (Int)) (p1 : Int) (HRp0 : Rd KI sb A0p c0p p0) (hH : Hp sb s F0 s []) (r : Bool) (H : laws_has.f p0 p1 = some r) : GCall Try.prog 23 #[.slice A0p p0.length c0p, .int .i64 p1] s (laws_has.post sb s F0 r) := by
  refine GCall_ofk [.tmp 4] [.slice A0p p0.length c0p, .int .i64 p1, undef, undef, undef, undef, undef, undef, undef, undef, undef, undef, undef, undef, undef, undef, undef] Try.func23 rfl rfl rfl ?_
  intro w Q hQr hQn hQp
  replace H := topE H
  unfold laws_has.f at H
  refine HT_seq_k ?_
  intro K1 hK1
  refine HT_region ?_
  refine HL_cons rfl ?_
  refine o_assign ?_
  try dsimp only [putL, setL, evL, getL]
  refine HL_nil ?_
  refine hK1 _ _ ?_
  refine HT_seq_k ?_
  intro K2 hK2
  refine HT_seq_k ?_
  intro K3 hK3
  refine HT_region ?_
  refine HL_cons rfl ?_
  refine o_move ?_
  try dsimp only [putL, setL, evL, getL]
  refine HL_cons rfl ?_
  refine o_len rfl Try.underlying24 ?_
  try dsimp only [putL, setL, evL, getL]
  refine HL_cons rfl ?_
  refine o_move ?_
  try dsimp only [putL, setL, evL, getL]
  refine HL_nil ?_
  refine hK3 _ _ ?_
  refine joinH H fun G4 hG4 H => ?_
  refine HT_toK (fun l' s' => G4 (.go ()) = some r ∧ l' = [.slice A0p p0.length c0p, .int .i64 p1, undef, undef, getL l' 4, undef, getL l' 6, .slice A0p p0.length c0p, .int .i64 (p0.length : Int), getL l' 9, getL l' 10, getL l' 11, getL l' 12, getL l' 13, getL l' 14, getL l' 15, getL l' 16] ∧ Hp sb s F0 s' []) ?_ ?_
  · intro K4 hK4
    refine HT_block ?_
    refine HT_loopK (fun kf l' s' => ∃ (x44 : Int), (laws_has.l1 p0 p1 kf x44).bind G4 = some r ∧ l' = [.slice A0p p0.length c0p, .int .i64 p1, undef, undef, getL l' 4, undef, getL l' 6, .slice A0p p0.length c0p, .int .i64 (p0.length : Int), .int .i64 x44, getL l' 10, getL l' 11, getL l' 12, getL l' 13, getL l' 14, getL l' 15, getL l' 16] ∧ Hp sb s F0 s' []) ((((p0.length : Int)) - (0)).toNat + 2) ⟨0, H, rfl, hH⟩ ?_
    rintro kf l' s55 ⟨x44, H, hl, hH⟩ K55 hK55
    generalize getL l' 4 = j4, getL l' 6 = j6, getL l' 10 = j10, getL l' 11 = j11, getL l' 12 = j12, getL l' 13 = j13, getL l' 14 = j14, getL l' 15 = j15, getL l' 16 = j16 at hl
    subst hl
    cases kf with
    | zero => simp [laws_has.l1] at H
    | succ kf =>
      rw [laws_has.l1] at H
      refine HT_seq_k ?_
      intro K56 hK56
      refine HT_region ?_
      refine HL_cons rfl ?_
      refine o_bin rfl rfl rfl ?_
      try dsimp only [putL, setL, evL, getL]
      refine HL_nil ?_
      refine hK56 _ _ ?_
      refine HT_seq_k ?_
      intro K57 hK57
      rcases Bool.eq_false_or_eq_true (decide (x44 < (p0.length : Int))) with hb58 | hb58
      · replace H := iteT hb58 H
        refine HT_true (congrArg Value.bool hb58) ?_
        refine HT_skip ?_
        refine hK57 _ _ ?_
        refine HT_seq_k ?_
        intro K59 hK59
        refine HT_block ?_
        refine HT_seq_k ?_
        intro K60 hK60
        refine HT_region ?_
        replace H := headE H
        obtain ⟨u61, hu61, H⟩ := H
        obtain ⟨b61, o61, cs61, hr61, hh61, hel61⟩ := Rd.elb HRp0 hu61
        obtain rfl := hr61
        refine HL_cons rfl ?_
        refine hel61 s55 rfl rfl Try.underlying24 tI3 ?_
        try dsimp only [putL, setL, evL, getL]
        refine HL_cons rfl ?_
        refine o_load' rfl Try.underlying3 rfl ((hh61 hH.bs.mono) 0 _ rfl) ?_
        try dsimp only [putL, setL, evL, getL]
        refine HL_cons rfl ?_
        refine o_assign ?_
        try dsimp only [putL, setL, evL, getL]
        refine HL_nil ?_
        refine hK60 _ _ ?_
        refine HT_seq_k ?_
        intro K62 hK62
        refine HT_region ?_
        refine HL_cons rfl ?_
        refine o_move ?_
        try dsimp only [putL, setL, evL, getL]
        refine HL_cons rfl ?_
        refine o_move ?_
        try dsimp only [putL, setL, evL, getL]
        refine HL_cons rfl ?_
        refine o_bin rfl rfl rfl ?_
        try dsimp only [putL, setL, evL, getL]
        refine HL_nil ?_
        refine hK62 _ _ ?_
        rcases Bool.eq_false_or_eq_true (u61 == p1) with hb63 | hb63
        · replace H := iteT hb63 H
          refine HT_true (congrArg Value.bool hb63) ?_
          refine HT_seq_k ?_
          intro K64 hK64
          refine HT_region ?_
          refine HL_cons rfl ?_
          refine o_assign ?_
          try dsimp only [putL, setL, evL, getL]
          refine HL_nil ?_
          refine hK64 _ _ ?_
          refine HT_ret ?_
          replace H := escH (fun z hz => hG4 _ hz) H
          exact hQr _ _ [.bool true] ⟨rfl, trivial⟩ (retH (fun r => laws_has.post sb s F0 r _ _) (show some _ = some r from H) ⟨rfl, hH⟩)
        · replace H := iteF hb63 H
          refine HT_false (congrArg Value.bool hb63) ?_
          refine HT_skip ?_
          refine hK59 _ _ ?_
          refine HT_region ?_
          refine HL_cons rfl ?_
          refine o_bin rfl rfl rfl ?_
          try dsimp only [putL, setL, evL, getL]
          refine HL_cons rfl ?_
          refine o_move ?_
          try dsimp only [putL, setL, evL, getL]
          refine HL_nil ?_
          exact hK55 _ _ ⟨kf, Nat.lt_succ_self kf, IntKind.i64.wrap (x44 + 1), H, rfl, hH⟩
      · replace H := iteF hb58 H
        refine HT_false (congrArg Value.bool hb58) ?_
        refine HT_exit ?_
        exact hK4 _ _ ⟨H, rfl, hH⟩
  · rintro l' s65 ⟨H, hl, hH⟩
    generalize getL l' 4 = j4, getL l' 6 = j6, getL l' 9 = j9, getL l' 10 = j10, getL l' 11 = j11, getL l' 12 = j12, getL l' 13 = j13, getL l' 14 = j14, getL l' 15 = j15, getL l' 16 = j16 at hl
    subst hl
    replace H := hG4 _ H
    try dsimp only at H
    refine hK2 _ _ ?_
    refine HT_seq_k ?_
    intro K66 hK66
    refine HT_region ?_
    refine HL_cons rfl ?_
    refine o_assign ?_
    try dsimp only [putL, setL, evL, getL]
    refine HL_nil ?_
    refine hK66 _ _ ?_
    refine HT_ret ?_
    exact hQr _ _ [.bool false] ⟨rfl, trivial⟩ (retH (fun r => laws_has.post sb s F0 r _ _) (show some _ = some r from H) ⟨rfl, hH⟩)
end Go.Proofs.Ytkieinlcpkpcjaa
