/- The functions that the law reaches, as plain functions, each with its contract: printed by a program of the prover's. No conditions: lemmas. -/
import Derived.Test.YtihocjbngajjkaaWRowOf0
set_option linter.unusedVariables false
set_option linter.unusedSimpArgs false
namespace Go.Proofs.Ytihocjbngajjkaa
open Go Go.Proofs.GL
def laws_eqIntS.l1 (p0 : List (Int)) (p1 : List (Int)) : Nat → Int → Option (Lo Unit Bool)
  | 0, _ => none
  | kf + 1, x48 => if (decide (x48 < (p0.length : Int))) = true then ((rd? p0 x48).bind fun u65 => (rd? p1 x48).bind fun u66 => if (u65 != u66) = true then ((some false).bind fun z => some (Lo.ret z)) else (laws_eqIntS.l1 p0 p1 kf (IntKind.i64.wrap (x48 + 1)))) else (some (Lo.go ()))
def laws_eqIntS.f (p0 : List (Int)) (p1 : List (Int)) : Option Bool := if ((p0.length : Int) != (p1.length : Int)) = true then (some false) else ((laws_eqIntS.l1 p0 p1 ((((p0.length : Int)) - (0)).toNat + 2) 0).bind fun (o : Lo Unit Bool) => match o with | .go () => (some true) | .ret z => some z)
def laws_eqIntS.post (sb s : St) (F0 : Fp) (r : Bool) : Value → St → Prop := fun v s' => v = .bool r ∧ Hp sb s F0 s' []
set_option maxRecDepth 100000 in
set_option maxHeartbeats 4000000 in
theorem laws_eqIntS.ok (sb s : St) (F0 : Fp) (A0p : Option Addr) (c0p : Nat) (p0 : List (Int)) (A1p : Option Addr) (c1p : Nat) (p1 : List (Int)) (HRp0 : Rd KI sb A0p c0p p0) (HRp1 : Rd KI sb A1p c1p p1) (hH : Hp sb s F0 s []) (r : Bool) (H : laws_eqIntS.f p0 p1 = some r) : GCall Try.prog 17 #[.slice A0p p0.length c0p, .slice A1p p1.length c1p] s (laws_eqIntS.post sb s F0 r) := by
  refine GCall_ofk [.tmp 4] [.slice A0p p0.length c0p, .slice A1p p1.length c1p, undef, undef, undef, undef, undef, undef, undef, undef, undef, undef, undef, undef, undef, undef, undef, undef, undef, undef, undef, undef, undef, undef, undef, undef] Try.func17 rfl rfl rfl ?_
  intro w Q hQr hQn hQp
  replace H := topE H
  unfold laws_eqIntS.f at H
  refine HT_seq_k ?_
  intro K1 hK1
  refine HT_region ?_
  refine HL_cons rfl ?_
  refine o_assign ?_
  try dsimp only [putL, setL, evL, getL]
  refine HL_nil ?_
  refine hK1 _ _ ?_
  refine HT_seq_k ?_
  intro K2 hK2
  refine HT_seq_k ?_
  intro K3 hK3
  refine HT_region ?_
  refine HL_cons rfl ?_
  refine o_move ?_
  try dsimp only [putL, setL, evL, getL]
  refine HL_cons rfl ?_
  refine o_len rfl Try.underlying22 ?_
  try dsimp only [putL, setL, evL, getL]
  refine HL_cons rfl ?_
  refine o_move ?_
  try dsimp only [putL, setL, evL, getL]
  refine HL_cons rfl ?_
  refine o_len rfl Try.underlying22 ?_
  try dsimp only [putL, setL, evL, getL]
  refine HL_cons rfl ?_
  refine o_bin rfl rfl rfl ?_
  try dsimp only [putL, setL, evL, getL]
  refine HL_nil ?_
  refine hK3 _ _ ?_
  rcases Bool.eq_false_or_eq_true ((p0.length : Int) != (p1.length : Int)) with hb4 | hb4
  · replace H := iteT hb4 H
    refine HT_true (congrArg Value.bool hb4) ?_
    refine HT_seq_k ?_
    intro K5 hK5
    refine HT_region ?_
    refine HL_cons rfl ?_
    refine o_assign ?_
    try dsimp only [putL, setL, evL, getL]
    refine HL_nil ?_
    refine hK5 _ _ ?_
    refine HT_ret ?_
    obtain rfl := Option.some.inj (show some _ = some r from H)
    exact hQr _ _ [.bool false] ⟨rfl, trivial⟩ ⟨rfl, hH⟩
  · replace H := iteF hb4 H
    refine HT_false (congrArg Value.bool hb4) ?_
    refine HT_skip ?_
    refine hK2 _ _ ?_
    refine HT_seq_k ?_
    intro K6 hK6
    refine HT_seq_k ?_
    intro K7 hK7
    refine HT_region ?_
    refine HL_cons rfl ?_
    refine o_assign ?_
    try dsimp only [putL, setL, evL, getL]
    refine HL_nil ?_
    refine hK7 _ _ ?_
    refine joinH H fun G8 hG8 H => ?_
    refine HT_toK (fun l' s' => G8 (.go ()) = some r ∧ l' = [.slice A0p p0.length c0p, .slice A1p p1.length c1p, undef, undef, getL l' 4, getL l' 5, .slice A0p p0.length c0p, .int .i64 (p0.length : Int), .slice A1p p1.length c1p, .int .i64 (p1.length : Int), .bool ((p0.length : Int) != (p1.length : Int)), getL l' 11, getL l' 12, getL l' 13, getL l' 14, getL l' 15, getL l' 16, getL l' 17, getL l' 18, getL l' 19, getL l' 20, getL l' 21, getL l' 22, getL l' 23, getL l' 24, getL l' 25] ∧ Hp sb s F0 s' []) ?_ ?_
    · intro K8 hK8
      refine HT_block ?_
      refine HT_loopK (fun kf l' s' => ∃ (x48 : Int), (laws_eqIntS.l1 p0 p1 kf x48).bind G8 = some r ∧ l' = [.slice A0p p0.length c0p, .slice A1p p1.length c1p, undef, undef, getL l' 4, .int .i64 x48, .slice A0p p0.length c0p, .int .i64 (p0.length : Int), .slice A1p p1.length c1p, .int .i64 (p1.length : Int), .bool ((p0.length : Int) != (p1.length : Int)), getL l' 11, getL l' 12, getL l' 13, getL l' 14, getL l' 15, getL l' 16, getL l' 17, getL l' 18, getL l' 19, getL l' 20, getL l' 21, getL l' 22, getL l' 23, getL l' 24, getL l' 25] ∧ Hp sb s F0 s' []) ((((p0.length : Int)) - (0)).toNat + 2) ⟨0, H, rfl, hH⟩ ?_
      rintro kf l' s59 ⟨x48, H, hl, hH⟩ K59 hK59
      generalize getL l' 4 = j4, getL l' 11 = j11, getL l' 12 = j12, getL l' 13 = j13, getL l' 14 = j14, getL l' 15 = j15, getL l' 16 = j16, getL l' 17 = j17, getL l' 18 = j18, getL l' 19 = j19, getL l' 20 = j20, getL l' 21 = j21, getL l' 22 = j22, getL l' 23 = j23, getL l' 24 = j24, getL l' 25 = j25 at hl
      subst hl
      cases kf with
      | zero => simp [laws_eqIntS.l1] at H
      | succ kf =>
        rw [laws_eqIntS.l1] at H
        refine HT_seq_k ?_
        intro K60 hK60
        refine HT_seq_k ?_
        intro K61 hK61
        refine HT_region ?_
        refine HL_cons rfl ?_
        refine o_move ?_
        try dsimp only [putL, setL, evL, getL]
        refine HL_cons rfl ?_
        refine o_move ?_
        try dsimp only [putL, setL, evL, getL]
        refine HL_cons rfl ?_
        refine o_len rfl Try.underlying22 ?_
        try dsimp only [putL, setL, evL, getL]
        refine HL_cons rfl ?_
        refine o_bin rfl rfl rfl ?_
        try dsimp only [putL, setL, evL, getL]
        refine HL_nil ?_
        refine hK61 _ _ ?_
        rcases Bool.eq_false_or_eq_true (decide (x48 < (p0.length : Int))) with hb62 | hb62
        · replace H := iteT hb62 H
          refine HT_true (congrArg Value.bool hb62) ?_
          refine HT_skip ?_
          refine hK60 _ _ ?_
          refine HT_seq_k ?_
          intro K63 hK63
          refine HT_block ?_
          refine HT_seq_k ?_
          intro K64 hK64
          refine HK_draw (fun s' => Gro s59 s') 10 hMix ?_
          have hR := Gro.refl s59
          have hH0 := hH
          refine HK_readP 0 (v := .slice A0p p0.length c0p) rfl (by kernel_rfl) (fun c l s h => hQp c l s h) rfl (fun s' K hK => ?_) rfl rfl (fun _ => hR) ?_
          · refine o_move ?_
            exact hK
          try dsimp only [putL, setL, evL, getL]
          refine HK_readP 1 (v := .int .i64 x48) rfl (by kernel_rfl) (fun c l s h => hQp c l s h) rfl (fun s' K hK => ?_) rfl rfl (fun _ => hR) ?_
          · refine o_move ?_
            exact hK
          try dsimp only [putL, setL, evL, getL]
          obtain ⟨u65, hu65, H⟩ := headE H
          obtain ⟨b65, o65, cs65, hr65, hh65, hel65⟩ := Rd.elb HRp0 hu65
          obtain rfl := hr65
          refine HK_readP 2 (v := .pointer (some ⟨b65, o65, none⟩)) rfl (by kernel_rfl) (fun c l s h => hQp c l s h) rfl (fun s' K hK => ?_) rfl rfl (fun _ => hR) ?_
          · refine hel65 s' rfl rfl Try.underlying22 tI3 ?_
            exact hK
          try dsimp only [putL, setL, evL, getL]
          refine HK_read 3 (v := .int .i64 u65) rfl (by kernel_rfl) (fun c l s h => hQp c l s h) rfl (fun s' hR' K hK => ?_) rfl rfl hR ?_
          · refine o_load' rfl Try.underlying3 rfl ((hh65 (hH0.bs.mono.trans hR'.mono)) 0 _ rfl) ?_
            exact hK
          try dsimp only [putL, setL, evL, getL]
          refine HK_readP 4 (v := .slice A1p p1.length c1p) rfl (by kernel_rfl) (fun c l s h => hQp c l s h) rfl (fun s' K hK => ?_) rfl rfl (fun _ => hR) ?_
          · refine o_move ?_
            exact hK
          try dsimp only [putL, setL, evL, getL]
          refine HK_readP 5 (v := .int .i64 x48) rfl (by kernel_rfl) (fun c l s h => hQp c l s h) rfl (fun s' K hK => ?_) rfl rfl (fun _ => hR) ?_
          · refine o_move ?_
            exact hK
          try dsimp only [putL, setL, evL, getL]
          obtain ⟨u66, hu66, H⟩ := headE H
          obtain ⟨b66, o66, cs66, hr66, hh66, hel66⟩ := Rd.elb HRp1 hu66
          obtain rfl := hr66
          refine HK_readP 6 (v := .pointer (some ⟨b66, o66, none⟩)) rfl (by kernel_rfl) (fun c l s h => hQp c l s h) rfl (fun s' K hK => ?_) rfl rfl (fun _ => hR) ?_
          · refine hel66 s' rfl rfl Try.underlying22 tI3 ?_
            exact hK
          try dsimp only [putL, setL, evL, getL]
          refine HK_read 7 (v := .int .i64 u66) rfl (by kernel_rfl) (fun c l s h => hQp c l s h) rfl (fun s' hR' K hK => ?_) rfl rfl hR ?_
          · refine o_load' rfl Try.underlying3 rfl ((hh66 (hH0.bs.mono.trans hR'.mono)) 0 _ rfl) ?_
            exact hK
          try dsimp only [putL, setL, evL, getL]
          refine HK_readP 8 (v := .bool (u65 != u66)) rfl (by kernel_rfl) (fun c l s h => hQp c l s h) rfl (fun s' K hK => ?_) rfl rfl (fun _ => hR) ?_
          · refine o_bin rfl rfl rfl ?_
            exact hK
          try dsimp only [putL, setL, evL, getL]
          refine HK_done (fun _ => hR) (by kernel_rfl) ?_
          refine hK64 _ _ ?_
          rcases Bool.eq_false_or_eq_true (u65 != u66) with hb67 | hb67
          · replace H := iteT hb67 H
            refine HT_true (congrArg Value.bool hb67) ?_
            refine HT_seq_k ?_
            intro K68 hK68
            refine HT_region ?_
            refine HL_cons rfl ?_
            refine o_assign ?_
            try dsimp only [putL, setL, evL, getL]
            refine HL_nil ?_
            refine hK68 _ _ ?_
            refine HT_ret ?_
            replace H := escH (fun z hz => hG8 _ hz) H
            obtain rfl := Option.some.inj (show some _ = some r from H)
            exact hQr _ _ [.bool false] ⟨rfl, trivial⟩ ⟨rfl, hH⟩
          · replace H := iteF hb67 H
            refine HT_false (congrArg Value.bool hb67) ?_
            refine HT_skip ?_
            refine hK63 _ _ ?_
            refine HT_region ?_
            refine HL_cons rfl ?_
            refine o_move ?_
            try dsimp only [putL, setL, evL, getL]
            refine HL_cons rfl ?_
            refine o_bin rfl rfl rfl ?_
            try dsimp only [putL, setL, evL, getL]
            refine HL_cons rfl ?_
            refine o_assign ?_
            try dsimp only [putL, setL, evL, getL]
            refine HL_nil ?_
            exact hK59 _ _ ⟨kf, Nat.lt_succ_self kf, IntKind.i64.wrap (x48 + 1), H, rfl, hH⟩
        · replace H := iteF hb62 H
          refine HT_false (congrArg Value.bool hb62) ?_
          refine HT_exit ?_
          exact hK8 _ _ ⟨H, rfl, hH⟩
    · rintro l' s69 ⟨H, hl, hH⟩
      generalize getL l' 4 = j4, getL l' 5 = j5, getL l' 11 = j11, getL l' 12 = j12, getL l' 13 = j13, getL l' 14 = j14, getL l' 15 = j15, getL l' 16 = j16, getL l' 17 = j17, getL l' 18 = j18, getL l' 19 = j19, getL l' 20 = j20, getL l' 21 = j21, getL l' 22 = j22, getL l' 23 = j23, getL l' 24 = j24, getL l' 25 = j25 at hl
      subst hl
      replace H := hG8 _ H
      try dsimp only at H
      refine hK6 _ _ ?_
      refine HT_seq_k ?_
      intro K70 hK70
      refine HT_region ?_
      refine HL_cons rfl ?_
      refine o_assign ?_
      try dsimp only [putL, setL, evL, getL]
      refine HL_nil ?_
      refine hK70 _ _ ?_
      refine HT_ret ?_
      obtain rfl := Option.some.inj (show some _ = some r from H)
      exact hQr _ _ [.bool true] ⟨rfl, trivial⟩ ⟨rfl, hH⟩
def laws_eqScreen.f (p0_0 : Int) (p0_1 : Int) (p0_2 : List (Int)) (p0_3 : Int) (p0_4 : Int) (p1_0 : Int) (p1_1 : Int) (p1_2 : List (Int)) (p1_3 : Int) (p1_4 : Int) : Option Bool := if (p0_0 != p1_0) = true then (some false) else (if (p0_1 != p1_1) = true then (some false) else ((laws_eqIntS.f p0_2 p1_2).bind fun u14 => if (!u14) = true then (some false) else (if (p0_3 != p1_3) = true then (some false) else (if (p0_4 != p1_4) = true then (some false) else (some true)))))
def laws_eqScreen.post (sb s : St) (F0 : Fp) (r : Bool) : Value → St → Prop := fun v s' => v = .bool r ∧ Hp sb s F0 s' []
set_option maxRecDepth 100000 in
set_option maxHeartbeats 4000000 in
theorem laws_eqScreen.ok (sb s : St) (F0 : Fp) (p0_0 : Int) (p0_1 : Int) (A0_2p : Option Addr) (c0_2p : Nat) (p0_2 : List (Int)) (p0_3 : Int) (p0_4 : Int) (p1_0 : Int) (p1_1 : Int) (A1_2p : Option Addr) (c1_2p : Nat) (p1_2 : List (Int)) (p1_3 : Int) (p1_4 : Int) (HRp0_2 : Rd KI sb A0_2p c0_2p p0_2) (HRp1_2 : Rd KI sb A1_2p c1_2p p1_2) (hH : Hp sb s F0 s []) (r : Bool) (H : laws_eqScreen.f p0_0 p0_1 p0_2 p0_3 p0_4 p1_0 p1_1 p1_2 p1_3 p1_4 = some r) : GCall Try.prog 13 #[.agg #[.int .i64 p0_0, .int .i64 p0_1, .slice A0_2p p0_2.length c0_2p, .int .i64 p0_3, .int .i64 p0_4], .agg #[.int .i64 p1_0, .int .i64 p1_1, .slice A1_2p p1_2.length c1_2p, .int .i64 p1_3, .int .i64 p1_4]] s (laws_eqScreen.post sb s F0 r) := by
  refine GCall_ofk [.tmp 4] [.agg #[.int .i64 p0_0, .int .i64 p0_1, .slice A0_2p p0_2.length c0_2p, .int .i64 p0_3, .int .i64 p0_4], .agg #[.int .i64 p1_0, .int .i64 p1_1, .slice A1_2p p1_2.length c1_2p, .int .i64 p1_3, .int .i64 p1_4], undef, undef, undef, undef, undef, undef, undef, undef, undef, undef, undef, undef, undef, undef, undef, undef, undef, undef, undef, undef, undef, undef, undef, undef, undef, undef, undef, undef, undef] Try.func13 rfl rfl rfl ?_
  intro w Q hQr hQn hQp
  replace H := topE H
  unfold laws_eqScreen.f at H
  refine HT_seq_k ?_
  intro K1 hK1
  refine HT_region ?_
  refine HL_cons rfl ?_
  refine o_boxH hH rfl ?_
  intro b2 s2 hH' hG
  replace hH : Hp sb s F0 s2 [Ck.ov b2 [.int .i64 p0_0, .int .i64 p0_1, .slice A0_2p p0_2.length c0_2p, .int .i64 p0_3, .int .i64 p0_4] 27] := hH'
  clear hH' hG
  try dsimp only [putL, setL, evL, getL]
  refine HL_cons rfl ?_
  refine o_boxH hH rfl ?_
  intro b3 s3 hH' hG
  replace hH : Hp sb s F0 s3 [Ck.ov b2 [.int .i64 p0_0, .int .i64 p0_1, .slice A0_2p p0_2.length c0_2p, .int .i64 p0_3, .int .i64 p0_4] 27, Ck.ov b3 [.int .i64 p1_0, .int .i64 p1_1, .slice A1_2p p1_2.length c1_2p, .int .i64 p1_3, .int .i64 p1_4] 27] := hH'
  clear hH' hG
  try dsimp only [putL, setL, evL, getL]
  refine HL_cons rfl ?_
  refine o_assign ?_
  try dsimp only [putL, setL, evL, getL]
  refine HL_nil ?_
  refine hK1 _ _ ?_
  refine HT_seq_k ?_
  intro K4 hK4
  refine HT_seq_k ?_
  intro K5 hK5
  refine HT_region ?_
  refine HL_cons rfl ?_
  refine o_faddr' (ft := 3) (off := 0) rfl Try.underlying27 rfl tI3 (by decide) ?_
  try dsimp only [putL, setL, evL, getL]
  refine HL_cons rfl ?_
  refine o_load' rfl Try.underlying3 rfl (hH.hasv 0 rfl rfl) ?_
  try dsimp only [putL, setL, evL, getL]
  refine HL_cons rfl ?_
  refine o_faddr' (ft := 3) (off := 0) rfl Try.underlying27 rfl tI3 (by decide) ?_
  try dsimp only [putL, setL, evL, getL]
  refine HL_cons rfl ?_
  refine o_load' rfl Try.underlying3 rfl (hH.hasv 1 rfl rfl) ?_
  try dsimp only [putL, setL, evL, getL]
  refine HL_cons rfl ?_
  refine o_bin rfl rfl rfl ?_
  try dsimp only [putL, setL, evL, getL]
  refine HL_nil ?_
  refine hK5 _ _ ?_
  rcases Bool.eq_false_or_eq_true (p0_0 != p1_0) with hb6 | hb6
  · replace H := iteT hb6 H
    refine HT_true (congrArg Value.bool hb6) ?_
    refine HT_seq_k ?_
    intro K7 hK7
    refine HT_region ?_
    refine HL_cons rfl ?_
    refine o_assign ?_
    try dsimp only [putL, setL, evL, getL]
    refine HL_nil ?_
    refine hK7 _ _ ?_
    refine HT_ret ?_
    obtain rfl := Option.some.inj (show some _ = some r from H)
    exact hQr _ _ [.bool false] ⟨rfl, trivial⟩ ⟨rfl, hH.sel [] (by decide)⟩
  · replace H := iteF hb6 H
    refine HT_false (congrArg Value.bool hb6) ?_
    refine HT_skip ?_
    refine hK4 _ _ ?_
    refine HT_seq_k ?_
    intro K8 hK8
    refine HT_seq_k ?_
    intro K9 hK9
    refine HT_region ?_
    refine HL_cons rfl ?_
    refine o_faddr' (ft := 3) (off := 1) rfl Try.underlying27 rfl tI3 (by decide) ?_
    try dsimp only [putL, setL, evL, getL]
    refine HL_cons rfl ?_
    refine o_load' rfl Try.underlying3 rfl (hH.hasv 0 rfl rfl) ?_
    try dsimp only [putL, setL, evL, getL]
    refine HL_cons rfl ?_
    refine o_faddr' (ft := 3) (off := 1) rfl Try.underlying27 rfl tI3 (by decide) ?_
    try dsimp only [putL, setL, evL, getL]
    refine HL_cons rfl ?_
    refine o_load' rfl Try.underlying3 rfl (hH.hasv 1 rfl rfl) ?_
    try dsimp only [putL, setL, evL, getL]
    refine HL_cons rfl ?_
    refine o_bin rfl rfl rfl ?_
    try dsimp only [putL, setL, evL, getL]
    refine HL_nil ?_
    refine hK9 _ _ ?_
    rcases Bool.eq_false_or_eq_true (p0_1 != p1_1) with hb10 | hb10
    · replace H := iteT hb10 H
      refine HT_true (congrArg Value.bool hb10) ?_
      refine HT_seq_k ?_
      intro K11 hK11
      refine HT_region ?_
      refine HL_cons rfl ?_
      refine o_assign ?_
      try dsimp only [putL, setL, evL, getL]
      refine HL_nil ?_
      refine hK11 _ _ ?_
      refine HT_ret ?_
      obtain rfl := Option.some.inj (show some _ = some r from H)
      exact hQr _ _ [.bool false] ⟨rfl, trivial⟩ ⟨rfl, hH.sel [] (by decide)⟩
    · replace H := iteF hb10 H
      refine HT_false (congrArg Value.bool hb10) ?_
      refine HT_skip ?_
      refine hK8 _ _ ?_
      refine HT_seq_k ?_
      intro K12 hK12
      refine HT_seq_k ?_
      intro K13 hK13
      refine HT_region ?_
      refine HL_cons rfl ?_
      refine o_faddr' (ft := 22) (off := 2) rfl Try.underlying27 rfl tI22 (by decide) ?_
      try dsimp only [putL, setL, evL, getL]
      refine HL_cons rfl ?_
      refine o_load' rfl Try.underlying22 rfl (hH.hasv 0 rfl rfl) ?_
      try dsimp only [putL, setL, evL, getL]
      refine HL_cons rfl ?_
      refine o_faddr' (ft := 22) (off := 2) rfl Try.underlying27 rfl tI22 (by decide) ?_
      try dsimp only [putL, setL, evL, getL]
      refine HL_cons rfl ?_
      refine o_load' rfl Try.underlying22 rfl (hH.hasv 1 rfl rfl) ?_
      try dsimp only [putL, setL, evL, getL]
      obtain ⟨u14, hu14, H⟩ := headE H
      refine HL_cons rfl ?_
      refine o_call (args := #[.slice A0_2p p0_2.length c0_2p, .slice A1_2p p1_2.length c1_2p]) Try.func17 rfl rfl rfl (laws_eqIntS.ok sb s3 no A0_2p c0_2p p0_2 A1_2p c1_2p p1_2 HRp0_2 HRp1_2 (Hp.own hH.bs) _ hu14) ?_
      rintro _ s14 ⟨rfl, hD⟩
      replace hH := hH.back0 hD (Up.refl _ _ _)
      clear hD
      dsimp only [addC, setC, rmC, selC, getC] at hH
      try dsimp only [putL, setL, evL, getL]
      refine HL_cons rfl ?_
      refine o_not rfl ?_
      try dsimp only [putL, setL, evL, getL]
      refine HL_nil ?_
      refine hK13 _ _ ?_
      rcases Bool.eq_false_or_eq_true (!u14) with hb15 | hb15
      · replace H := iteT hb15 H
        refine HT_true (congrArg Value.bool hb15) ?_
        refine HT_seq_k ?_
        intro K16 hK16
        refine HT_region ?_
        refine HL_cons rfl ?_
        refine o_assign ?_
        try dsimp only [putL, setL, evL, getL]
        refine HL_nil ?_
        refine hK16 _ _ ?_
        refine HT_ret ?_
        obtain rfl := Option.some.inj (show some _ = some r from H)
        exact hQr _ _ [.bool false] ⟨rfl, trivial⟩ ⟨rfl, hH.sel [] (by decide)⟩
      · replace H := iteF hb15 H
        refine HT_false (congrArg Value.bool hb15) ?_
        refine HT_skip ?_
        refine hK12 _ _ ?_
        refine HT_seq_k ?_
        intro K17 hK17
        refine HT_seq_k ?_
        intro K18 hK18
        refine HT_region ?_
        refine HL_cons rfl ?_
        refine o_faddr' (ft := 3) (off := 3) rfl Try.underlying27 rfl tI3 (by decide) ?_
        try dsimp only [putL, setL, evL, getL]
        refine HL_cons rfl ?_
        refine o_load' rfl Try.underlying3 rfl (hH.hasv 0 rfl rfl) ?_
        try dsimp only [putL, setL, evL, getL]
        refine HL_cons rfl ?_
        refine o_faddr' (ft := 3) (off := 3) rfl Try.underlying27 rfl tI3 (by decide) ?_
        try dsimp only [putL, setL, evL, getL]
        refine HL_cons rfl ?_
        refine o_load' rfl Try.underlying3 rfl (hH.hasv 1 rfl rfl) ?_
        try dsimp only [putL, setL, evL, getL]
        refine HL_cons rfl ?_
        refine o_bin rfl rfl rfl ?_
        try dsimp only [putL, setL, evL, getL]
        refine HL_nil ?_
        refine hK18 _ _ ?_
        rcases Bool.eq_false_or_eq_true (p0_3 != p1_3) with hb19 | hb19
        · replace H := iteT hb19 H
          refine HT_true (congrArg Value.bool hb19) ?_
          refine HT_seq_k ?_
          intro K20 hK20
          refine HT_region ?_
          refine HL_cons rfl ?_
          refine o_assign ?_
          try dsimp only [putL, setL, evL, getL]
          refine HL_nil ?_
          refine hK20 _ _ ?_
          refine HT_ret ?_
          obtain rfl := Option.some.inj (show some _ = some r from H)
          exact hQr _ _ [.bool false] ⟨rfl, trivial⟩ ⟨rfl, hH.sel [] (by decide)⟩
        · replace H := iteF hb19 H
          refine HT_false (congrArg Value.bool hb19) ?_
          refine HT_skip ?_
          refine hK17 _ _ ?_
          refine HT_seq_k ?_
          intro K21 hK21
          refine HT_seq_k ?_
          intro K22 hK22
          refine HT_region ?_
          refine HL_cons rfl ?_
          refine o_faddr' (ft := 3) (off := 4) rfl Try.underlying27 rfl tI3 (by decide) ?_
          try dsimp only [putL, setL, evL, getL]
          refine HL_cons rfl ?_
          refine o_load' rfl Try.underlying3 rfl (hH.hasv 0 rfl rfl) ?_
          try dsimp only [putL, setL, evL, getL]
          refine HL_cons rfl ?_
          refine o_faddr' (ft := 3) (off := 4) rfl Try.underlying27 rfl tI3 (by decide) ?_
          try dsimp only [putL, setL, evL, getL]
          refine HL_cons rfl ?_
          refine o_load' rfl Try.underlying3 rfl (hH.hasv 1 rfl rfl) ?_
          try dsimp only [putL, setL, evL, getL]
          refine HL_cons rfl ?_
          refine o_bin rfl rfl rfl ?_
          try dsimp only [putL, setL, evL, getL]
          refine HL_nil ?_
          refine hK22 _ _ ?_
          rcases Bool.eq_false_or_eq_true (p0_4 != p1_4) with hb23 | hb23
          · replace H := iteT hb23 H
            refine HT_true (congrArg Value.bool hb23) ?_
            refine HT_seq_k ?_
            intro K24 hK24
            refine HT_region ?_
            refine HL_cons rfl ?_
            refine o_assign ?_
            try dsimp only [putL, setL, evL, getL]
            refine HL_nil ?_
            refine hK24 _ _ ?_
            refine HT_ret ?_
            obtain rfl := Option.some.inj (show some _ = some r from H)
            exact hQr _ _ [.bool false] ⟨rfl, trivial⟩ ⟨rfl, hH.sel [] (by decide)⟩
          · replace H := iteF hb23 H
            refine HT_false (congrArg Value.bool hb23) ?_
            refine HT_skip ?_
            refine hK21 _ _ ?_
            refine HT_seq_k ?_
            intro K25 hK25
            refine HT_region ?_
            refine HL_cons rfl ?_
            refine o_assign ?_
            try dsimp only [putL, setL, evL, getL]
            refine HL_nil ?_
            refine hK25 _ _ ?_
            refine HT_ret ?_
            obtain rfl := Option.some.inj (show some _ = some r from H)
            exact hQr _ _ [.bool true] ⟨rfl, trivial⟩ ⟨rfl, hH.sel [] (by decide)⟩
def laws_markIntS.l1 (p0 : List (Int)) : Nat → (List (Int)) → Int → Int → Option (Int × (List (Int)))
  | 0, _, _, _ => none
  | kf + 1, x42, x43, x44 => if (decide (x44 < (p0.length : Int))) = true then ((rd? x42 x44).bind fun u61 => (st? x42 x44 x43).bind fun x62 => laws_markIntS.l1 p0 kf x62 (IntKind.i64.wrap (x43 + 1)) (IntKind.i64.wrap (x44 + 1))) else (some (x43, x42))
def laws_markIntS.f (p0 : List (Int)) (p1 : Int) : Option (Int × (List (Int))) := (laws_markIntS.l1 p0 ((((p0.length : Int)) - (0)).toNat + 2) p0 p1 0).bind fun (o : Int × (List (Int))) => match o with | (x33, x34) => (some (x33, x34))
def laws_markIntS.post (sb s : St) (F0 : Fp) (A0p : Option Addr) (c0p : Nat) (p0 : List (Int)) (r : Int × (List (Int))) : Value → St → Prop := fun v s' => v = .int .i64 r.1 ∧ Hp sb s F0 s' [Ck.ol OI 3 A0p c0p r.2] ∧ r.2.length = p0.length
set_option maxRecDepth 100000 in
set_option maxHeartbeats 4000000 in
theorem laws_markIntS.ok (sb s : St) (F0 : Fp) (A0p : Option Addr) (c0p : Nat) (p0 : List (Int)) (p1 : Int) (hH : Hp sb s F0 s [Ck.ol OI 3 A0p c0p p0]) (r : Int × (List (Int))) (H : laws_markIntS.f p0 p1 = some r) : GCall Try.prog 24 #[.slice A0p p0.length c0p, .int .i64 p1] s (laws_markIntS.post sb s F0 A0p c0p p0 r) := by
  refine GCall_ofk [.tmp 4] [.slice A0p p0.length c0p, .int .i64 p1, undef, undef, undef, undef, undef, undef, undef, undef, undef, undef, undef, undef, undef, undef, undef, undef, undef] Try.func24 rfl rfl rfl ?_
  intro w Q hQr hQn hQp
  replace H := topE H
  unfold laws_markIntS.f at H
  refine HT_seq_k ?_
  intro K1 hK1
  refine HT_region ?_
  refine HL_cons rfl ?_
  refine o_assign ?_
  try dsimp only [putL, setL, evL, getL]
  refine HL_nil ?_
  refine hK1 _ _ ?_
  refine HT_seq_k ?_
  intro K2 hK2
  refine HT_seq_k ?_
  intro K3 hK3
  refine HT_region ?_
  refine HL_cons rfl ?_
  refine o_assign ?_
  try dsimp only [putL, setL, evL, getL]
  refine HL_nil ?_
  refine hK3 _ _ ?_
  refine joinH H fun G4 hG4 H => ?_
  refine HT_toK (fun l' s' => ∃ (x33 : Int) (x34 : List (Int)), G4 (x33, x34) = some r ∧ l' = [.slice A0p p0.length c0p, .int .i64 x33, undef, undef, .int .i64 0, getL l' 5, getL l' 6, getL l' 7, getL l' 8, getL l' 9, getL l' 10, getL l' 11, getL l' 12, getL l' 13, getL l' 14, getL l' 15, getL l' 16, getL l' 17, undef] ∧ Hp sb s F0 s' [Ck.ol OI 3 A0p c0p x34] ∧ x34.length = p0.length) ?_ ?_
  · intro K4 hK4
    refine HT_block ?_
    refine HT_loopK (fun kf l' s' => ∃ (x42 : List (Int)) (x43 : Int) (x44 : Int), (laws_markIntS.l1 p0 kf x42 x43 x44).bind G4 = some r ∧ l' = [.slice A0p p0.length c0p, .int .i64 x43, undef, undef, .int .i64 0, .int .i64 x44, getL l' 6, getL l' 7, getL l' 8, getL l' 9, getL l' 10, getL l' 11, getL l' 12, getL l' 13, getL l' 14, getL l' 15, getL l' 16, getL l' 17, undef] ∧ Hp sb s F0 s' [Ck.ol OI 3 A0p c0p x42] ∧ x42.length = p0.length) ((((p0.length : Int)) - (0)).toNat + 2) ⟨p0, p1, 0, H, rfl, hH, rfl⟩ ?_
    rintro kf l' s55 ⟨x42, x43, x44, H, hl, hH, hl42⟩ K55 hK55
    generalize getL l' 6 = j6, getL l' 7 = j7, getL l' 8 = j8, getL l' 9 = j9, getL l' 10 = j10, getL l' 11 = j11, getL l' 12 = j12, getL l' 13 = j13, getL l' 14 = j14, getL l' 15 = j15, getL l' 16 = j16, getL l' 17 = j17 at hl
    subst hl
    cases kf with
    | zero => simp [laws_markIntS.l1] at H
    | succ kf =>
      rw [laws_markIntS.l1] at H
      refine HT_seq_k ?_
      intro K56 hK56
      refine HT_seq_k ?_
      intro K57 hK57
      refine HT_region ?_
      refine HL_cons rfl ?_
      refine o_move ?_
      try dsimp only [putL, setL, evL, getL]
      refine HL_cons rfl ?_
      refine o_move ?_
      try dsimp only [putL, setL, evL, getL]
      refine HL_cons rfl ?_
      refine o_len rfl Try.underlying22 ?_
      try dsimp only [putL, setL, evL, getL]
      refine HL_cons rfl ?_
      refine o_bin rfl rfl rfl ?_
      try dsimp only [putL, setL, evL, getL]
      refine HL_nil ?_
      refine hK57 _ _ ?_
      rcases Bool.eq_false_or_eq_true (decide (x44 < (p0.length : Int))) with hb58 | hb58
      · replace H := iteT hb58 H
        refine HT_true (congrArg Value.bool hb58) ?_
        refine HT_skip ?_
        refine hK56 _ _ ?_
        refine HT_seq_k ?_
        intro K59 hK59
        refine HT_block ?_
        refine HT_seq_k ?_
        intro K60 hK60
        refine HT_region ?_
        refine HL_cons rfl ?_
        refine o_move ?_
        try dsimp only [putL, setL, evL, getL]
        refine HL_cons rfl ?_
        refine o_move ?_
        try dsimp only [putL, setL, evL, getL]
        refine HL_cons rfl ?_
        refine o_move ?_
        try dsimp only [putL, setL, evL, getL]
        obtain ⟨u61, hu61, H⟩ := headE H
        obtain ⟨b61, o61, cs61, hA61, hr61, hh61, hel61⟩ := hH.elo 0 rfl hu61
        obtain rfl := hr61
        refine HL_cons rfl ?_
        refine hel61 s55 (sliceLen hl42) rfl Try.underlying22 tI3 ?_
        try dsimp only [putL, setL, evL, getL]
        obtain ⟨x62, hx62, H⟩ := headE H
        refine HL_cons rfl ?_
        refine o_setF (vs := [.int .i64 x43]) (u := x43) hH 0 rfl rfl rfl rfl rfl tI3 hA61 hx62 (Ent.own (Ent.flat rfl)) ?_
        intro s62 hH'
        have hl62 := (st?_len hx62).trans hl42
        replace hH : Hp sb s F0 s62 [Ck.ol OI 3 A0p c0p x62] := hH'
        clear hH'
        try dsimp only [putL, setL, evL, getL]
        refine HL_nil ?_
        refine hK60 _ _ ?_
        refine HT_region ?_
        refine HL_cons rfl ?_
        refine o_move ?_
        try dsimp only [putL, setL, evL, getL]
        refine HL_cons rfl ?_
        refine o_bin rfl rfl rfl ?_
        try dsimp only [putL, setL, evL, getL]
        refine HL_cons rfl ?_
        refine o_assign ?_
        try dsimp only [putL, setL, evL, getL]
        refine HL_nil ?_
        refine hK59 _ _ ?_
        refine HT_region ?_
        refine HL_cons rfl ?_
        refine o_move ?_
        try dsimp only [putL, setL, evL, getL]
        refine HL_cons rfl ?_
        refine o_bin rfl rfl rfl ?_
        try dsimp only [putL, setL, evL, getL]
        refine HL_cons rfl ?_
        refine o_assign ?_
        try dsimp only [putL, setL, evL, getL]
        refine HL_nil ?_
        exact hK55 _ _ ⟨kf, Nat.lt_succ_self kf, x62, IntKind.i64.wrap (x43 + 1), IntKind.i64.wrap (x44 + 1), H, rfl, hH, hl62⟩
      · replace H := iteF hb58 H
        refine HT_false (congrArg Value.bool hb58) ?_
        refine HT_exit ?_
        exact hK4 _ _ ⟨x43, x42, H, rfl, hH, hl42⟩
  · rintro l' s63 ⟨x33, x34, H, hl, hH, hl34⟩
    generalize getL l' 5 = j5, getL l' 6 = j6, getL l' 7 = j7, getL l' 8 = j8, getL l' 9 = j9, getL l' 10 = j10, getL l' 11 = j11, getL l' 12 = j12, getL l' 13 = j13, getL l' 14 = j14, getL l' 15 = j15, getL l' 16 = j16, getL l' 17 = j17 at hl
    subst hl
    replace H := hG4 _ H
    try dsimp only at H
    refine hK2 _ _ ?_
    refine HT_seq_k ?_
    intro K64 hK64
    refine HT_region ?_
    refine HL_cons rfl ?_
    refine o_move ?_
    try dsimp only [putL, setL, evL, getL]
    refine HL_cons rfl ?_
    refine o_assign ?_
    try dsimp only [putL, setL, evL, getL]
    refine HL_nil ?_
    refine hK64 _ _ ?_
    refine HT_ret ?_
    obtain rfl := Option.some.inj (show some _ = some r from H)
    exact hQr _ _ [.int .i64 x33] ⟨rfl, trivial⟩ ⟨rfl, hH, hl34⟩
def laws_markScreen.f (p0_0 : Int) (p0_1 : Int) (p0_2 : List (Int)) (p0_3 : Int) (p0_4 : Int) (p1 : Int) : Option (Int × (List (Int))) := (laws_markIntS.f p0_2 p1).bind fun u4 => some (u4.1, u4.2)
def laws_markScreen.post (sb s : St) (F0 : Fp) (A0_2p : Option Addr) (c0_2p : Nat) (p0_2 : List (Int)) (r : Int × (List (Int))) : Value → St → Prop := fun v s' => v = .int .i64 r.1 ∧ Hp sb s F0 s' [Ck.ol OI 3 A0_2p c0_2p r.2] ∧ r.2.length = p0_2.length
set_option maxRecDepth 100000 in
set_option maxHeartbeats 4000000 in
theorem laws_markScreen.ok (sb s : St) (F0 : Fp) (p0_0 : Int) (p0_1 : Int) (A0_2p : Option Addr) (c0_2p : Nat) (p0_2 : List (Int)) (p0_3 : Int) (p0_4 : Int) (p1 : Int) (hH : Hp sb s F0 s [Ck.ol OI 3 A0_2p c0_2p p0_2]) (r : Int × (List (Int))) (H : laws_markScreen.f p0_0 p0_1 p0_2 p0_3 p0_4 p1 = some r) : GCall Try.prog 20 #[.agg #[.int .i64 p0_0, .int .i64 p0_1, .slice A0_2p p0_2.length c0_2p, .int .i64 p0_3, .int .i64 p0_4], .int .i64 p1] s (laws_markScreen.post sb s F0 A0_2p c0_2p p0_2 r) := by
  refine GCall_ofk [.tmp 4] [.agg #[.int .i64 p0_0, .int .i64 p0_1, .slice A0_2p p0_2.length c0_2p, .int .i64 p0_3, .int .i64 p0_4], .int .i64 p1, undef, undef, undef, undef, undef, undef, undef, undef] Try.func20 rfl rfl rfl ?_
  intro w Q hQr hQn hQp
  replace H := topE H
  unfold laws_markScreen.f at H
  refine HT_seq_k ?_
  intro K1 hK1
  refine HT_region ?_
  refine HL_cons rfl ?_
  refine o_boxH hH rfl ?_
  intro b2 s2 hH' hG
  replace hH : Hp sb s F0 s2 [Ck.ol OI 3 A0_2p c0_2p p0_2, Ck.ov b2 [.int .i64 p0_0, .int .i64 p0_1, .slice A0_2p p0_2.length c0_2p, .int .i64 p0_3, .int .i64 p0_4] 27] := hH'
  clear hH' hG
  try dsimp only [putL, setL, evL, getL]
  refine HL_cons rfl ?_
  refine o_assign ?_
  try dsimp only [putL, setL, evL, getL]
  refine HL_nil ?_
  refine hK1 _ _ ?_
  refine HT_seq_k ?_
  intro K3 hK3
  refine HT_region ?_
  refine HL_cons rfl ?_
  refine o_faddr' (ft := 22) (off := 2) rfl Try.underlying27 rfl tI22 (by decide) ?_
  try dsimp only [putL, setL, evL, getL]
  refine HL_cons rfl ?_
  refine o_load' rfl Try.underlying22 rfl (hH.hasv 1 rfl rfl) ?_
  try dsimp only [putL, setL, evL, getL]
  refine HL_cons rfl ?_
  refine o_move ?_
  try dsimp only [putL, setL, evL, getL]
  obtain ⟨u4, hu4, H⟩ := headE H
  obtain ⟨F1, hA, hB⟩ := hH.take [0] (by decide)
  dsimp only [addC, setC, rmC, selC, getC] at hA
  refine HL_cons rfl ?_
  refine o_call (args := #[.slice A0_2p p0_2.length c0_2p, .int .i64 p1]) Try.func24 rfl rfl rfl (laws_markIntS.ok sb s2 F1 A0_2p c0_2p p0_2 p1 hA _ hu4) ?_
  rintro _ s4 ⟨rfl, hD, hl5⟩
  replace hH := hB _ _ _ (Up.refl _ _ _) hD
  clear hD hA hB
  dsimp only [addC, setC, rmC, selC, getC] at hH
  try dsimp only [putL, setL, evL, getL]
  refine HL_cons rfl ?_
  refine o_assign ?_
  try dsimp only [putL, setL, evL, getL]
  refine HL_nil ?_
  refine hK3 _ _ ?_
  refine HT_seq_k ?_
  intro K6 hK6
  refine HT_region ?_
  refine HL_cons rfl ?_
  refine o_move ?_
  try dsimp only [putL, setL, evL, getL]
  refine HL_cons rfl ?_
  refine o_assign ?_
  try dsimp only [putL, setL, evL, getL]
  refine HL_nil ?_
  refine hK6 _ _ ?_
  refine HT_ret ?_
  obtain rfl := Option.some.inj (show some _ = some r from H)
  exact hQr _ _ [.int .i64 u4.1] ⟨rfl, trivial⟩ ⟨rfl, hH.sel [2] (by decide), hl5⟩
def laws_heldIntS.l1 (p0 : List (Int)) : Nat → Int → Int → Option (Lo Int Int)
  | 0, _, _ => none
  | kf + 1, x47, x48 => if (decide (x48 < (p0.length : Int))) = true then ((rd? p0 x48).bind fun u67 => if (u67 != x47) = true then ((some (-1)).bind fun z => some (Lo.ret z)) else (laws_heldIntS.l1 p0 kf (IntKind.i64.wrap (x47 + 1)) (IntKind.i64.wrap (x48 + 1)))) else (some (Lo.go x47))
def laws_heldIntS.f (p0 : List (Int)) (p1 : Int) : Option Int := (laws_heldIntS.l1 p0 ((((p0.length : Int)) - (0)).toNat + 2) p1 0).bind fun (o : Lo Int Int) => match o with | .go x37 => (some x37) | .ret z => some z
def laws_heldIntS.post (sb s : St) (F0 : Fp) (r : Int) : Value → St → Prop := fun v s' => v = .int .i64 r ∧ Hp sb s F0 s' []
set_option maxRecDepth 100000 in
set_option maxHeartbeats 4000000 in
theorem laws_heldIntS.ok (sb s : St) (F0 : Fp) (A0p : Option Addr) (c0p : Nat) (p0 : List (Int)) (p1 : Int) (HRp0 : Rd KI sb A0p c0p p0) (hH : Hp sb s F0 s []) (r : Int) (H : laws_heldIntS.f p0 p1 = some r) : GCall Try.prog 25 #[.slice A0p p0.length c0p, .int .i64 p1] s (laws_heldIntS.post sb s F0 r) := by
  refine GCall_ofk [.tmp 4] [.slice A0p p0.length c0p, .int .i64 p1, undef, undef, undef, undef, undef, undef, undef, undef, undef, undef, undef, undef, undef, undef, undef, undef, undef, undef, undef] Try.func25 rfl rfl rfl ?_
  intro w Q hQr hQn hQp
  replace H := topE H
  unfold laws_heldIntS.f at H
  refine HT_seq_k ?_
  intro K1 hK1
  refine HT_region ?_
  refine HL_cons rfl ?_
  refine o_assign ?_
  try dsimp only [putL, setL, evL, getL]
  refine HL_nil ?_
  refine hK1 _ _ ?_
  refine HT_seq_k ?_
  intro K2 hK2
  refine HT_seq_k ?_
  intro K3 hK3
  refine HT_region ?_
  refine HL_cons rfl ?_
  refine o_assign ?_
  try dsimp only [putL, setL, evL, getL]
  refine HL_nil ?_
  refine hK3 _ _ ?_
  refine joinH H fun G4 hG4 H => ?_
  refine HT_toK (fun l' s' => ∃ (x37 : Int), G4 (.go x37) = some r ∧ l' = [.slice A0p p0.length c0p, .int .i64 x37, undef, undef, getL l' 4, getL l' 5, getL l' 6, getL l' 7, getL l' 8, getL l' 9, getL l' 10, getL l' 11, getL l' 12, getL l' 13, getL l' 14, getL l' 15, getL l' 16, getL l' 17, getL l' 18, getL l' 19, undef] ∧ Hp sb s F0 s' []) ?_ ?_
  · intro K4 hK4
    refine HT_block ?_
    refine HT_loopK (fun kf l' s' => ∃ (x47 : Int) (x48 : Int), (laws_heldIntS.l1 p0 kf x47 x48).bind G4 = some r ∧ l' = [.slice A0p p0.length c0p, .int .i64 x47, undef, undef, getL l' 4, .int .i64 x48, getL l' 6, getL l' 7, getL l' 8, getL l' 9, getL l' 10, getL l' 11, getL l' 12, getL l' 13, getL l' 14, getL l' 15, getL l' 16, getL l' 17, getL l' 18, getL l' 19, undef] ∧ Hp sb s F0 s' []) ((((p0.length : Int)) - (0)).toNat + 2) ⟨p1, 0, H, rfl, hH⟩ ?_
    rintro kf l' s60 ⟨x47, x48, H, hl, hH⟩ K60 hK60
    generalize getL l' 4 = j4, getL l' 6 = j6, getL l' 7 = j7, getL l' 8 = j8, getL l' 9 = j9, getL l' 10 = j10, getL l' 11 = j11, getL l' 12 = j12, getL l' 13 = j13, getL l' 14 = j14, getL l' 15 = j15, getL l' 16 = j16, getL l' 17 = j17, getL l' 18 = j18, getL l' 19 = j19 at hl
    subst hl
    cases kf with
    | zero => simp [laws_heldIntS.l1] at H
    | succ kf =>
      rw [laws_heldIntS.l1] at H
      refine HT_seq_k ?_
      intro K61 hK61
      refine HT_seq_k ?_
      intro K62 hK62
      refine HT_region ?_
      refine HL_cons rfl ?_
      refine o_move ?_
      try dsimp only [putL, setL, evL, getL]
      refine HL_cons rfl ?_
      refine o_move ?_
      try dsimp only [putL, setL, evL, getL]
      refine HL_cons rfl ?_
      refine o_len rfl Try.underlying22 ?_
      try dsimp only [putL, setL, evL, getL]
      refine HL_cons rfl ?_
      refine o_bin rfl rfl rfl ?_
      try dsimp only [putL, setL, evL, getL]
      refine HL_nil ?_
      refine hK62 _ _ ?_
      rcases Bool.eq_false_or_eq_true (decide (x48 < (p0.length : Int))) with hb63 | hb63
      · replace H := iteT hb63 H
        refine HT_true (congrArg Value.bool hb63) ?_
        refine HT_skip ?_
        refine hK61 _ _ ?_
        refine HT_seq_k ?_
        intro K64 hK64
        refine HT_block ?_
        refine HT_seq_k ?_
        intro K65 hK65
        refine HT_seq_k ?_
        intro K66 hK66
        refine HT_region ?_
        refine HL_cons rfl ?_
        refine o_move ?_
        try dsimp only [putL, setL, evL, getL]
        refine HL_cons rfl ?_
        refine o_move ?_
        try dsimp only [putL, setL, evL, getL]
        obtain ⟨u67, hu67, H⟩ := headE H
        obtain ⟨b67, o67, cs67, hr67, hh67, hel67⟩ := Rd.elb HRp0 hu67
        obtain rfl := hr67
        refine HL_cons rfl ?_
        refine hel67 s60 rfl rfl Try.underlying22 tI3 ?_
        try dsimp only [putL, setL, evL, getL]
        refine HL_cons rfl ?_
        refine o_load' rfl Try.underlying3 rfl ((hh67 hH.bs.mono) 0 _ rfl) ?_
        try dsimp only [putL, setL, evL, getL]
        refine HL_cons rfl ?_
        refine o_move ?_
        try dsimp only [putL, setL, evL, getL]
        refine HL_cons rfl ?_
        refine o_bin rfl rfl rfl ?_
        try dsimp only [putL, setL, evL, getL]
        refine HL_nil ?_
        refine hK66 _ _ ?_
        rcases Bool.eq_false_or_eq_true (u67 != x47) with hb68 | hb68
        · replace H := iteT hb68 H
          refine HT_true (congrArg Value.bool hb68) ?_
          refine HT_seq_k ?_
          intro K69 hK69
          refine HT_region ?_
          refine HL_cons rfl ?_
          refine o_assign ?_
          try dsimp only [putL, setL, evL, getL]
          refine HL_nil ?_
          refine hK69 _ _ ?_
          refine HT_ret ?_
          replace H := escH (fun z hz => hG4 _ hz) H
          obtain rfl := Option.some.inj (show some _ = some r from H)
          exact hQr _ _ [.int .i64 (-1)] ⟨rfl, trivial⟩ ⟨rfl, hH⟩
        · replace H := iteF hb68 H
          refine HT_false (congrArg Value.bool hb68) ?_
          refine HT_skip ?_
          refine hK65 _ _ ?_
          refine HT_region ?_
          refine HL_cons rfl ?_
          refine o_move ?_
          try dsimp only [putL, setL, evL, getL]
          refine HL_cons rfl ?_
          refine o_bin rfl rfl rfl ?_
          try dsimp only [putL, setL, evL, getL]
          refine HL_cons rfl ?_
          refine o_assign ?_
          try dsimp only [putL, setL, evL, getL]
          refine HL_nil ?_
          refine hK64 _ _ ?_
          refine HT_region ?_
          refine HL_cons rfl ?_
          refine o_move ?_
          try dsimp only [putL, setL, evL, getL]
          refine HL_cons rfl ?_
          refine o_bin rfl rfl rfl ?_
          try dsimp only [putL, setL, evL, getL]
          refine HL_cons rfl ?_
          refine o_assign ?_
          try dsimp only [putL, setL, evL, getL]
          refine HL_nil ?_
          exact hK60 _ _ ⟨kf, Nat.lt_succ_self kf, IntKind.i64.wrap (x47 + 1), IntKind.i64.wrap (x48 + 1), H, rfl, hH⟩
      · replace H := iteF hb63 H
        refine HT_false (congrArg Value.bool hb63) ?_
        refine HT_exit ?_
        exact hK4 _ _ ⟨x47, H, rfl, hH⟩
  · rintro l' s70 ⟨x37, H, hl, hH⟩
    generalize getL l' 4 = j4, getL l' 5 = j5, getL l' 6 = j6, getL l' 7 = j7, getL l' 8 = j8, getL l' 9 = j9, getL l' 10 = j10, getL l' 11 = j11, getL l' 12 = j12, getL l' 13 = j13, getL l' 14 = j14, getL l' 15 = j15, getL l' 16 = j16, getL l' 17 = j17, getL l' 18 = j18, getL l' 19 = j19 at hl
    subst hl
    replace H := hG4 _ H
    try dsimp only at H
    refine hK2 _ _ ?_
    refine HT_seq_k ?_
    intro K71 hK71
    refine HT_region ?_
    refine HL_cons rfl ?_
    refine o_move ?_
    try dsimp only [putL, setL, evL, getL]
    refine HL_cons rfl ?_
    refine o_assign ?_
    try dsimp only [putL, setL, evL, getL]
    refine HL_nil ?_
    refine hK71 _ _ ?_
    refine HT_ret ?_
    obtain rfl := Option.some.inj (show some _ = some r from H)
    exact hQr _ _ [.int .i64 x37] ⟨rfl, trivial⟩ ⟨rfl, hH⟩
def laws_FnExactRowOf.f (p0_0 : Int) (p0_1 : Int) (p0_2 : List (Int)) (p0_3 : Int) (p0_4 : Int) (p1 : Int) : Option Bool := (laws_szScreen.f p0_0 p0_1 p0_2 p0_3 p0_4 1048576).bind fun u5 => if (decide (u5 < 0)) = true then (some true) else ((laws_toScreen.f p0_0 p0_1 p0_2 p0_3 p0_4).bind fun u11 => (spec_RowOf.f u11.1 u11.2.1 u11.2.2.1 u11.2.2.2.1 u11.2.2.2.2 p1).bind fun u13 => (laws_toScreen.f p0_0 p0_1 p0_2 p0_3 p0_4).bind fun u16 => (impl_RowOf.f u16.1 u16.2.1 u16.2.2.1 u16.2.2.2.1 u16.2.2.2.2 p1).bind fun u21 => ((laws_eqIntS.f u21.1 u13.1).bind fun u38 => if (!u38) = true then (some true) else (some (u21.2 != u13.2))).bind fun (o : Bool) => match o with | x37 => (if x37 = true then (some false) else ((laws_toScreen.f p0_0 p0_1 p0_2 p0_3 p0_4).bind fun u45 => (laws_eqScreen.f u16.1 u16.2.1 u16.2.2.1 u16.2.2.2.1 u16.2.2.2.2 u45.1 u45.2.1 u45.2.2.1 u45.2.2.2.1 u45.2.2.2.2).bind fun u47 => if (!u47) = true then (some false) else ((laws_markScreen.f u16.1 u16.2.1 u16.2.2.1 u16.2.2.2.1 u16.2.2.2.2 1).bind fun u52 => (if (decide (u52.1 < 0)) = true then (some true) else ((laws_eqIntS.f u21.1 u13.1).bind fun u73 => if (!u73) = true then (some true) else (some (u21.2 != u13.2)))).bind fun (o : Bool) => match o with | x71 => (if x71 = true then (some false) else ((laws_markIntS.f u21.1 1).bind fun u80 => (laws_heldIntS.f u80.2 1).bind fun u84 => if (decide (u84 < 0)) = true then (some false) else (if (u84 != u80.1) = true then (some false) else ((laws_toScreen.f p0_0 p0_1 p0_2 p0_3 p0_4).bind fun u94 => (impl_RowOf.f u94.1 u94.2.1 u94.2.2.1 u94.2.2.2.1 u94.2.2.2.2 p1).bind fun u96 => ((laws_eqIntS.f u96.1 u13.1).bind fun u113 => if (!u113) = true then (some true) else (some (u96.2 != u13.2))).bind fun (o : Bool) => match o with | x112 => (if x112 = true then (some false) else ((laws_heldIntS.f u80.2 1).bind fun u120 => if (decide (u120 < 0)) = true then (some false) else (if (u120 != u80.1) = true then (some false) else (some true))))))))))))
def laws_FnExactRowOf.post (sb s : St) (F0 : Fp) (r : Bool) : Value → St → Prop := fun v s' => v = .bool r ∧ Hp sb s F0 s' []
set_option maxRecDepth 100000 in
set_option maxHeartbeats 4000000 in
theorem laws_FnExactRowOf.ok (sb s : St) (F0 : Fp) (p0_0 : Int) (p0_1 : Int) (A0_2p : Option Addr) (c0_2p : Nat) (p0_2 : List (Int)) (p0_3 : Int) (p0_4 : Int) (p1 : Int) (HRp0_2 : Rd KI sb A0_2p c0_2p p0_2) (hH : Hp sb s F0 s []) (r : Bool) (H : laws_FnExactRowOf.f p0_0 p0_1 p0_2 p0_3 p0_4 p1 = some r) : GCall Try.prog 8 #[.agg #[.int .i64 p0_0, .int .i64 p0_1, .slice A0_2p p0_2.length c0_2p, .int .i64 p0_3, .int .i64 p0_4], .int .i64 p1] s (laws_FnExactRowOf.post sb s F0 r) := by
  refine GCall_ofk [.tmp 4] [.agg #[.int .i64 p0_0, .int .i64 p0_1, .slice A0_2p p0_2.length c0_2p, .int .i64 p0_3, .int .i64 p0_4], .int .i64 p1, undef, undef, undef, undef, undef, undef, undef, undef, undef, undef, undef, undef, undef, undef, undef, undef, undef, undef, undef, undef, undef, undef, undef, undef, undef, undef, undef, undef, undef, undef, undef, undef, undef, undef, undef, undef, undef, undef, undef, undef, undef, undef, undef, undef, undef, undef, undef, undef, undef, undef, undef, undef, undef, undef, undef, undef, undef, undef, undef, undef, undef, undef, undef, undef, undef, undef, undef, undef, undef, undef, undef, undef, undef, undef, undef, undef, undef, undef, undef, undef, undef, undef, undef, undef, undef, undef, undef, undef, undef, undef, undef, undef, undef, undef, undef, undef, undef, undef, undef] Try.func8 rfl rfl rfl ?_
  intro w Q hQr hQn hQp
  replace H := topE H
  unfold laws_FnExactRowOf.f at H
  refine HT_seq_k ?_
  intro K1 hK1
  refine HT_region ?_
  refine HL_cons rfl ?_
  refine o_boxH hH rfl ?_
  intro b2 s2 hH' hG
  replace hH : Hp sb s F0 s2 [Ck.ov b2 [.int .i64 p0_0, .int .i64 p0_1, .slice A0_2p p0_2.length c0_2p, .int .i64 p0_3, .int .i64 p0_4] 24] := hH'
  clear hH' hG
  try dsimp only [putL, setL, evL, getL]
  refine HL_cons rfl ?_
  refine o_assign ?_
  try dsimp only [putL, setL, evL, getL]
  refine HL_nil ?_
  refine hK1 _ _ ?_
  refine HT_seq_k ?_
  intro K3 hK3
  refine HT_region ?_
  refine HL_cons rfl ?_
  refine o_assign ?_
  try dsimp only [putL, setL, evL, getL]
  refine HL_nil ?_
  refine hK3 _ _ ?_
  refine HT_seq_k ?_
  intro K4 hK4
  refine HT_region ?_
  refine HL_cons rfl ?_
  refine o_loads' [.int .i64 p0_0, .int .i64 p0_1, .slice A0_2p p0_2.length c0_2p, .int .i64 p0_3, .int .i64 p0_4] rfl Try.underlying24 rfl tI24 rfl (hH.partv 0 rfl (0) [.int .i64 p0_0, .int .i64 p0_1, .slice A0_2p p0_2.length c0_2p, .int .i64 p0_3, .int .i64 p0_4] rfl) ?_
  try dsimp only [putL, setL, evL, getL]
  refine HL_cons rfl ?_
  refine o_move ?_
  try dsimp only [putL, setL, evL, getL]
  obtain ⟨u5, hu5, H⟩ := headE H
  refine HL_cons rfl ?_
  refine o_call (args := #[.agg #[.int .i64 p0_0, .int .i64 p0_1, .slice A0_2p p0_2.length c0_2p, .int .i64 p0_3, .int .i64 p0_4], .int .i64 1048576]) Try.func9 rfl rfl rfl (laws_szScreen.ok sb s2 no p0_0 p0_1 A0_2p c0_2p p0_2 p0_3 p0_4 1048576 HRp0_2 (Hp.own hH.bs) _ hu5) ?_
  rintro _ s5 ⟨rfl, hD⟩
  replace hH := hH.back0 hD (Up.refl _ _ _)
  clear hD
  dsimp only [addC, setC, rmC, selC, getC] at hH
  try dsimp only [putL, setL, evL, getL]
  refine HL_cons rfl ?_
  refine o_assign ?_
  try dsimp only [putL, setL, evL, getL]
  refine HL_nil ?_
  refine hK4 _ _ ?_
  refine HT_seq_k ?_
  intro K6 hK6
  refine HT_seq_k ?_
  intro K7 hK7
  refine HT_region ?_
  refine HL_cons rfl ?_
  refine o_move ?_
  try dsimp only [putL, setL, evL, getL]
  refine HL_cons rfl ?_
  refine o_bin rfl rfl rfl ?_
  try dsimp only [putL, setL, evL, getL]
  refine HL_nil ?_
  refine hK7 _ _ ?_
  rcases Bool.eq_false_or_eq_true (decide (u5 < 0)) with hb8 | hb8
  · replace H := iteT hb8 H
    refine HT_true (congrArg Value.bool hb8) ?_
    refine HT_seq_k ?_
    intro K9 hK9
    refine HT_region ?_
    refine HL_cons rfl ?_
    refine o_assign ?_
    try dsimp only [putL, setL, evL, getL]
    refine HL_nil ?_
    refine hK9 _ _ ?_
    refine HT_ret ?_
    obtain rfl := Option.some.inj (show some _ = some r from H)
    exact hQr _ _ [.bool true] ⟨rfl, trivial⟩ ⟨rfl, hH.sel [] (by decide)⟩
  · replace H := iteF hb8 H
    refine HT_false (congrArg Value.bool hb8) ?_
    refine HT_skip ?_
    refine hK6 _ _ ?_
    refine HT_seq_k ?_
    intro K10 hK10
    refine HT_region ?_
    refine HL_cons rfl ?_
    refine o_loads' [.int .i64 p0_0, .int .i64 p0_1, .slice A0_2p p0_2.length c0_2p, .int .i64 p0_3, .int .i64 p0_4] rfl Try.underlying24 rfl tI24 rfl (hH.partv 0 rfl (0) [.int .i64 p0_0, .int .i64 p0_1, .slice A0_2p p0_2.length c0_2p, .int .i64 p0_3, .int .i64 p0_4] rfl) ?_
    try dsimp only [putL, setL, evL, getL]
    obtain ⟨u11, hu11, H⟩ := headE H
    refine HL_cons rfl ?_
    refine o_call (args := #[.agg #[.int .i64 p0_0, .int .i64 p0_1, .slice A0_2p p0_2.length c0_2p, .int .i64 p0_3, .int .i64 p0_4]]) Try.func11 rfl rfl rfl (laws_toScreen.ok sb s5 no p0_0 p0_1 A0_2p c0_2p p0_2 p0_3 p0_4 HRp0_2 (Hp.own hH.bs) _ hu11) ?_
    rintro _ s11 ⟨A12, c12, rfl, hD⟩
    replace hH := hH.back0 hD (Up.refl _ _ _)
    clear hD
    dsimp only [addC, setC, rmC, selC, getC] at hH
    try dsimp only [putL, setL, evL, getL]
    refine HL_cons rfl ?_
    refine o_move ?_
    try dsimp only [putL, setL, evL, getL]
    obtain ⟨u13, hu13, H⟩ := headE H
    refine HL_cons rfl ?_
    refine o_call (args := #[.agg #[.int .i64 u11.1, .int .i64 u11.2.1, .slice A12 u11.2.2.1.length c12, .int .i64 u11.2.2.2.1, .int .i64 u11.2.2.2.2], .int .i64 p1]) Try.func28 rfl rfl rfl (spec_RowOf.ok s11 s11 no u11.1 u11.2.1 A12 c12 u11.2.2.1 u11.2.2.2.1 u11.2.2.2.2 p1 (hH.rd 1 rfl) (Hp.own (Bs.refl s11)) _ hu13) ?_
    rintro _ s13 ⟨A14, c14, rfl, hD⟩
    replace hH := hH.back0T hD
    clear hD
    dsimp only [addC, setC, rmC, selC, getC] at hH
    try dsimp only [putL, setL, evL, getL]
    refine HL_cons rfl ?_
    refine o_move ?_
    try dsimp only [putL, setL, evL, getL]
    refine HL_cons rfl ?_
    refine o_extract rfl rfl ?_
    try dsimp only [putL, setL, evL, getL]
    refine HL_cons rfl ?_
    refine o_extract rfl rfl ?_
    try dsimp only [putL, setL, evL, getL]
    refine HL_cons rfl ?_
    refine o_assign ?_
    try dsimp only [putL, setL, evL, getL]
    refine HL_cons rfl ?_
    refine o_assign ?_
    try dsimp only [putL, setL, evL, getL]
    refine HL_nil ?_
    refine hK10 _ _ ?_
    refine HT_seq_k ?_
    intro K15 hK15
    refine HT_region ?_
    refine HL_cons rfl ?_
    refine o_loads' [.int .i64 p0_0, .int .i64 p0_1, .slice A0_2p p0_2.length c0_2p, .int .i64 p0_3, .int .i64 p0_4] rfl Try.underlying24 rfl tI24 rfl (hH.partv 0 rfl (0) [.int .i64 p0_0, .int .i64 p0_1, .slice A0_2p p0_2.length c0_2p, .int .i64 p0_3, .int .i64 p0_4] rfl) ?_
    try dsimp only [putL, setL, evL, getL]
    obtain ⟨u16, hu16, H⟩ := headE H
    refine HL_cons rfl ?_
    refine o_call (args := #[.agg #[.int .i64 p0_0, .int .i64 p0_1, .slice A0_2p p0_2.length c0_2p, .int .i64 p0_3, .int .i64 p0_4]]) Try.func11 rfl rfl rfl (laws_toScreen.ok sb s13 no p0_0 p0_1 A0_2p c0_2p p0_2 p0_3 p0_4 HRp0_2 (Hp.own hH.bs) _ hu16) ?_
    rintro _ s16 ⟨A17, c17, rfl, hD⟩
    replace hH := hH.back0 hD (Up.refl _ _ _)
    clear hD
    dsimp only [addC, setC, rmC, selC, getC] at hH
    try dsimp only [putL, setL, evL, getL]
    refine HL_cons rfl ?_
    refine o_allocH hH tI27 ?_
    intro b18 s18 hH' hG
    replace hH : Hp sb s F0 s18 [Ck.ov b2 [.int .i64 p0_0, .int .i64 p0_1, .slice A0_2p p0_2.length c0_2p, .int .i64 p0_3, .int .i64 p0_4] 24, Ck.ol OI 3 A12 c12 u11.2.2.1, Ck.ol OI 3 A14 c14 u13.1, Ck.ol OI 3 A17 c17 u16.2.2.1, Ck.ov b18 [.int .i64 0, .int .i64 0, .slice none 0 0, .int .i64 0, .int .i64 0] 27] := hH'
    clear hH' hG
    try dsimp only [putL, setL, evL, getL]
    refine HL_cons rfl ?_
    refine o_stvH (vs := [.int .i64 u16.1, .int .i64 u16.2.1, .slice A17 u16.2.2.1.length c17, .int .i64 u16.2.2.2.1, .int .i64 u16.2.2.2.2]) (us' := [.int .i64 u16.1, .int .i64 u16.2.1, .slice A17 u16.2.2.1.length c17, .int .i64 u16.2.2.2.1, .int .i64 u16.2.2.2.2]) hH 4 rfl rfl rfl rfl rfl tI27 rfl (List.cons_ne_nil _ _) rfl rfl rfl ?_
    intro s19 hH'
    replace hH : Hp sb s F0 s19 [Ck.ov b2 [.int .i64 p0_0, .int .i64 p0_1, .slice A0_2p p0_2.length c0_2p, .int .i64 p0_3, .int .i64 p0_4] 24, Ck.ol OI 3 A12 c12 u11.2.2.1, Ck.ol OI 3 A14 c14 u13.1, Ck.ol OI 3 A17 c17 u16.2.2.1, Ck.ov b18 [.int .i64 u16.1, .int .i64 u16.2.1, .slice A17 u16.2.2.1.length c17, .int .i64 u16.2.2.2.1, .int .i64 u16.2.2.2.2] 27] := hH'
    clear hH'
    try dsimp only [putL, setL, evL, getL]
    refine HL_nil ?_
    refine hK15 _ _ ?_
    refine HT_seq_k ?_
    intro K20 hK20
    refine HT_region ?_
    refine HL_cons rfl ?_
    refine o_loads' [.int .i64 u16.1, .int .i64 u16.2.1, .slice A17 u16.2.2.1.length c17, .int .i64 u16.2.2.2.1, .int .i64 u16.2.2.2.2] rfl Try.underlying27 rfl tI27 rfl (hH.partv 4 rfl (0) [.int .i64 u16.1, .int .i64 u16.2.1, .slice A17 u16.2.2.1.length c17, .int .i64 u16.2.2.2.1, .int .i64 u16.2.2.2.2] rfl) ?_
    try dsimp only [putL, setL, evL, getL]
    refine HL_cons rfl ?_
    refine o_move ?_
    try dsimp only [putL, setL, evL, getL]
    obtain ⟨u21, hu21, H⟩ := headE H
    refine HL_cons rfl ?_
    refine o_call (args := #[.agg #[.int .i64 u16.1, .int .i64 u16.2.1, .slice A17 u16.2.2.1.length c17, .int .i64 u16.2.2.2.1, .int .i64 u16.2.2.2.2], .int .i64 p1]) Try.func29 rfl rfl rfl (impl_RowOf.ok s19 s19 no u16.1 u16.2.1 A17 c17 u16.2.2.1 u16.2.2.2.1 u16.2.2.2.2 p1 (hH.rd 3 rfl) (Hp.own (Bs.refl s19)) _ hu21) ?_
    rintro _ s21 ⟨A22, c22, rfl, hD⟩
    replace hH := hH.back0T hD
    clear hD
    dsimp only [addC, setC, rmC, selC, getC] at hH
    try dsimp only [putL, setL, evL, getL]
    refine HL_cons rfl ?_
    refine o_move ?_
    try dsimp only [putL, setL, evL, getL]
    refine HL_cons rfl ?_
    refine o_extract rfl rfl ?_
    try dsimp only [putL, setL, evL, getL]
    refine HL_cons rfl ?_
    refine o_extract rfl rfl ?_
    try dsimp only [putL, setL, evL, getL]
    refine HL_cons rfl ?_
    refine o_assign ?_
    try dsimp only [putL, setL, evL, getL]
    refine HL_cons rfl ?_
    refine o_assign ?_
    try dsimp only [putL, setL, evL, getL]
    refine HL_nil ?_
    refine hK20 _ _ ?_
    refine HT_seq_k ?_
    intro K33 hK33
    refine joinH H fun G34 hG34 H => ?_
    refine HT_joinK (fun l' s' => ∃ (x37 : Bool), G34 x37 = some r ∧ l' = [.agg #[.int .i64 p0_0, .int .i64 p0_1, .slice A0_2p p0_2.length c0_2p, .int .i64 p0_3, .int .i64 p0_4], .int .i64 p1, .pointer (some ⟨b2, 0, none⟩), undef, .bool false, .int .i64 u5, .slice A14 u13.1.length c14, .bool u13.2, .pointer (some ⟨b18, 0, none⟩), .slice A22 u21.1.length c22, .bool u21.2, undef, undef, undef, undef, undef, .agg #[.int .i64 p0_0, .int .i64 p0_1, .slice A0_2p p0_2.length c0_2p, .int .i64 p0_3, .int .i64 p0_4], .int .i64 1048576, .int .i64 u5, .int .i64 u5, .bool (decide (u5 < 0)), .tuple #[.slice A14 u13.1.length c14, .bool u13.2], .agg #[.int .i64 p0_0, .int .i64 p0_1, .slice A0_2p p0_2.length c0_2p, .int .i64 p0_3, .int .i64 p0_4], .agg #[.int .i64 u11.1, .int .i64 u11.2.1, .slice A12 u11.2.2.1.length c12, .int .i64 u11.2.2.2.1, .int .i64 u11.2.2.2.2], .int .i64 p1, .tuple #[.slice A14 u13.1.length c14, .bool u13.2], .slice A14 u13.1.length c14, .bool u13.2, .agg #[.int .i64 p0_0, .int .i64 p0_1, .slice A0_2p p0_2.length c0_2p, .int .i64 p0_3, .int .i64 p0_4], .agg #[.int .i64 u16.1, .int .i64 u16.2.1, .slice A17 u16.2.2.1.length c17, .int .i64 u16.2.2.2.1, .int .i64 u16.2.2.2.2], .tuple #[.slice A22 u21.1.length c22, .bool u21.2], .agg #[.int .i64 u16.1, .int .i64 u16.2.1, .slice A17 u16.2.2.1.length c17, .int .i64 u16.2.2.2.1, .int .i64 u16.2.2.2.2], .int .i64 p1, .tuple #[.slice A22 u21.1.length c22, .bool u21.2], .slice A22 u21.1.length c22, .bool u21.2, getL l' 36, getL l' 37, getL l' 38, getL l' 39, getL l' 40, getL l' 41, getL l' 42, getL l' 43, .bool x37, undef, undef, undef, undef, undef, undef, undef, undef, undef, undef, undef, undef, undef, undef, undef, undef, undef, undef, undef, undef, undef, undef, undef, undef, undef, undef, undef, undef, undef, undef, undef, undef, undef, undef, undef, undef, undef, undef, undef, undef, undef, undef, undef, undef, undef, undef, undef, undef, undef, undef, undef, undef, undef, undef, undef, undef] ∧ Hp sb s F0 s' [Ck.ol OI 3 A14 c14 u13.1, Ck.ol OI 3 A22 c22 u21.1, Ck.ol OI 3 A17 c17 u16.2.2.1, Ck.ov b2 [.int .i64 p0_0, .int .i64 p0_1, .slice A0_2p p0_2.length c0_2p, .int .i64 p0_3, .int .i64 p0_4] 24, Ck.ov b18 [.int .i64 u16.1, .int .i64 u16.2.1, .slice A17 u16.2.2.1.length c17, .int .i64 u16.2.2.2.1, .int .i64 u16.2.2.2.2] 27]) ?_ ?_
    · intro K34 hK34
      refine HT_region ?_
      refine HL_cons rfl ?_
      refine o_move ?_
      try dsimp only [putL, setL, evL, getL]
      refine HL_cons rfl ?_
      refine o_move ?_
      try dsimp only [putL, setL, evL, getL]
      obtain ⟨u38, hu38, H⟩ := headE H
      refine HL_cons rfl ?_
      refine o_call (args := #[.slice A22 u21.1.length c22, .slice A14 u13.1.length c14]) Try.func17 rfl rfl rfl (laws_eqIntS.ok s21 s21 no A22 c22 u21.1 A14 c14 u13.1 (hH.rd 5 rfl) (hH.rd 2 rfl) (Hp.own (Bs.refl s21)) _ hu38) ?_
      rintro _ s38 ⟨rfl, hD⟩
      replace hH := hH.back0T hD
      clear hD
      dsimp only [addC, setC, rmC, selC, getC] at hH
      try dsimp only [putL, setL, evL, getL]
      refine HL_cons rfl ?_
      refine o_not rfl ?_
      try dsimp only [putL, setL, evL, getL]
      refine HL_cons rfl ?_
      refine o_move ?_
      try dsimp only [putL, setL, evL, getL]
      rcases Bool.eq_false_or_eq_true (!u38) with hb39 | hb39
      · replace H := iteT hb39 H
        refine HL_skip ?_ ?_
        · exact wantF (j := 4) (b := false) (t := 40) (c := !u38) rfl rfl rfl rfl hb39
        try dsimp only [putL, setL, evL, getL]
        refine HL_skip ?_ ?_
        · exact wantF (j := 4) (b := false) (t := 40) (c := !u38) rfl rfl rfl rfl hb39
        try dsimp only [putL, setL, evL, getL]
        refine HL_skip ?_ ?_
        · exact wantF (j := 4) (b := false) (t := 40) (c := !u38) rfl rfl rfl rfl hb39
        try dsimp only [putL, setL, evL, getL]
        refine HL_cons rfl ?_
        refine o_pickT rfl hb39 ?_
        try dsimp only [putL, setL, evL, getL]
        refine HL_nil ?_
        exact hK34 _ _ ⟨true, H, rfl, hH.sel [2, 5, 3, 0, 4] (by decide)⟩
      · replace H := iteF hb39 H
        refine HL_want ?_ ?_
        · exact wantT (j := 4) (b := false) (t := 40) (c := !u38) rfl rfl rfl rfl hb39
        refine o_move ?_
        try dsimp only [putL, setL, evL, getL]
        refine HL_want ?_ ?_
        · exact wantT (j := 4) (b := false) (t := 40) (c := !u38) rfl rfl rfl rfl hb39
        refine o_move ?_
        try dsimp only [putL, setL, evL, getL]
        refine HL_want ?_ ?_
        · exact wantT (j := 4) (b := false) (t := 40) (c := !u38) rfl rfl rfl rfl hb39
        refine o_neb rfl rfl Try.underlying4 ?_
        try dsimp only [putL, setL, evL, getL]
        refine HL_cons rfl ?_
        refine o_pickF rfl hb39 ?_
        try dsimp only [putL, setL, evL, getL]
        refine HL_nil ?_
        exact hK34 _ _ ⟨u21.2 != u13.2, H, rfl, hH.sel [2, 5, 3, 0, 4] (by decide)⟩
    · rintro l' s40 ⟨x37, H, hl, hH⟩
      generalize getL l' 36 = j36, getL l' 37 = j37, getL l' 38 = j38, getL l' 39 = j39, getL l' 40 = j40, getL l' 41 = j41, getL l' 42 = j42, getL l' 43 = j43 at hl
      subst hl
      replace H := hG34 _ H
      try dsimp only at H
      rcases Bool.eq_false_or_eq_true x37 with hb41 | hb41
      · replace H := iteT hb41 H
        refine HT_true (congrArg Value.bool hb41) ?_
        refine HT_seq_k ?_
        intro K42 hK42
        refine HT_region ?_
        refine HL_cons rfl ?_
        refine o_assign ?_
        try dsimp only [putL, setL, evL, getL]
        refine HL_nil ?_
        refine hK42 _ _ ?_
        refine HT_ret ?_
        obtain rfl := Option.some.inj (show some _ = some r from H)
        exact hQr _ _ [.bool false] ⟨rfl, trivial⟩ ⟨rfl, hH.sel [] (by decide)⟩
      · replace H := iteF hb41 H
        refine HT_false (congrArg Value.bool hb41) ?_
        refine HT_skip ?_
        refine hK33 _ _ ?_
        refine HT_seq_k ?_
        intro K43 hK43
        refine HT_seq_k ?_
        intro K44 hK44
        refine HK_draw (fun s' => Gro s40 s') 6 hMix ?_
        have hR := Gro.refl s40
        have hH0 := hH
        refine HK_read 0 (v := .agg #[.int .i64 u16.1, .int .i64 u16.2.1, .slice A17 u16.2.2.1.length c17, .int .i64 u16.2.2.2.1, .int .i64 u16.2.2.2.2]) rfl (by kernel_rfl) (fun c l s h => hQp c l s h) rfl (fun s' hR' K hK => ?_) rfl rfl hR ?_
        · refine o_loads' [.int .i64 u16.1, .int .i64 u16.2.1, .slice A17 u16.2.2.1.length c17, .int .i64 u16.2.2.2.1, .int .i64 u16.2.2.2.2] rfl Try.underlying27 rfl tI27 rfl (fun j v hj => has_gro hR' ((hH0.partv 4 rfl (0) [.int .i64 u16.1, .int .i64 u16.2.1, .slice A17 u16.2.2.1.length c17, .int .i64 u16.2.2.2.1, .int .i64 u16.2.2.2.2] rfl) j v hj)) ?_
          exact hK
        try dsimp only [putL, setL, evL, getL]
        refine HK_read 1 (v := .agg #[.int .i64 p0_0, .int .i64 p0_1, .slice A0_2p p0_2.length c0_2p, .int .i64 p0_3, .int .i64 p0_4]) rfl (by kernel_rfl) (fun c l s h => hQp c l s h) rfl (fun s' hR' K hK => ?_) rfl rfl hR ?_
        · refine o_loads' [.int .i64 p0_0, .int .i64 p0_1, .slice A0_2p p0_2.length c0_2p, .int .i64 p0_3, .int .i64 p0_4] rfl Try.underlying24 rfl tI24 rfl (fun j v hj => has_gro hR' ((hH0.partv 3 rfl (0) [.int .i64 p0_0, .int .i64 p0_1, .slice A0_2p p0_2.length c0_2p, .int .i64 p0_3, .int .i64 p0_4] rfl) j v hj)) ?_
          exact hK
        try dsimp only [putL, setL, evL, getL]
        obtain ⟨u45, hu45, H⟩ := headE H
        refine HK_one 2 (by kernel_rfl) rfl (fun _ => hR) rfl ?_
        refine o_call (args := #[.agg #[.int .i64 p0_0, .int .i64 p0_1, .slice A0_2p p0_2.length c0_2p, .int .i64 p0_3, .int .i64 p0_4]]) Try.func11 rfl rfl rfl (laws_toScreen.ok sb s40 no p0_0 p0_1 A0_2p c0_2p p0_2 p0_3 p0_4 HRp0_2 (Hp.own hH.bs) _ hu45) ?_
        rintro _ s45 ⟨A46, c46, rfl, hD⟩
        replace hR := hR.trans hD.gro
        replace hH := hH.back0 hD (Up.refl _ _ _)
        clear hD
        dsimp only [addC, setC, rmC, selC, getC] at hH
        try dsimp only [putL, setL, evL, getL]
        obtain ⟨u47, hu47, H⟩ := headE H
        refine HK_one 3 (by kernel_rfl) rfl (fun _ => hR) rfl ?_
        refine o_call (args := #[.agg #[.int .i64 u16.1, .int .i64 u16.2.1, .slice A17 u16.2.2.1.length c17, .int .i64 u16.2.2.2.1, .int .i64 u16.2.2.2.2], .agg #[.int .i64 u45.1, .int .i64 u45.2.1, .slice A46 u45.2.2.1.length c46, .int .i64 u45.2.2.2.1, .int .i64 u45.2.2.2.2]]) Try.func13 rfl rfl rfl (laws_eqScreen.ok s45 s45 no u16.1 u16.2.1 A17 c17 u16.2.2.1 u16.2.2.2.1 u16.2.2.2.2 u45.1 u45.2.1 A46 c46 u45.2.2.1 u45.2.2.2.1 u45.2.2.2.2 (hH.rd 2 rfl) (hH.rd 5 rfl) (Hp.own (Bs.refl s45)) _ hu47) ?_
        rintro _ s47 ⟨rfl, hD⟩
        replace hR := hR.trans hD.gro
        replace hH := hH.back0T hD
        clear hD
        dsimp only [addC, setC, rmC, selC, getC] at hH
        try dsimp only [putL, setL, evL, getL]
        refine HK_readP 4 (v := .bool (!u47)) rfl (by kernel_rfl) (fun c l s h => hQp c l s h) rfl (fun s' K hK => ?_) rfl rfl (fun _ => hR) ?_
        · refine o_not rfl ?_
          exact hK
        try dsimp only [putL, setL, evL, getL]
        refine HK_done (fun _ => hR) (by kernel_rfl) ?_
        refine hK44 _ _ ?_
        rcases Bool.eq_false_or_eq_true (!u47) with hb48 | hb48
        · replace H := iteT hb48 H
          refine HT_true (congrArg Value.bool hb48) ?_
          refine HT_seq_k ?_
          intro K49 hK49
          refine HT_region ?_
          refine HL_cons rfl ?_
          refine o_assign ?_
          try dsimp only [putL, setL, evL, getL]
          refine HL_nil ?_
          refine hK49 _ _ ?_
          refine HT_ret ?_
          obtain rfl := Option.some.inj (show some _ = some r from H)
          exact hQr _ _ [.bool false] ⟨rfl, trivial⟩ ⟨rfl, hH.sel [] (by decide)⟩
        · replace H := iteF hb48 H
          refine HT_false (congrArg Value.bool hb48) ?_
          refine HT_skip ?_
          refine hK43 _ _ ?_
          refine HT_seq_k ?_
          intro K50 hK50
          refine HT_region ?_
          refine HL_cons rfl ?_
          refine o_assign ?_
          try dsimp only [putL, setL, evL, getL]
          refine HL_nil ?_
          refine hK50 _ _ ?_
          refine HT_seq_k ?_
          intro K51 hK51
          refine HT_region ?_
          refine HL_cons rfl ?_
          refine o_loads' [.int .i64 u16.1, .int .i64 u16.2.1, .slice A17 u16.2.2.1.length c17, .int .i64 u16.2.2.2.1, .int .i64 u16.2.2.2.2] rfl Try.underlying27 rfl tI27 rfl (hH.partv 4 rfl (0) [.int .i64 u16.1, .int .i64 u16.2.1, .slice A17 u16.2.2.1.length c17, .int .i64 u16.2.2.2.1, .int .i64 u16.2.2.2.2] rfl) ?_
          try dsimp only [putL, setL, evL, getL]
          refine HL_cons rfl ?_
          refine o_move ?_
          try dsimp only [putL, setL, evL, getL]
          obtain ⟨u52, hu52, H⟩ := headE H
          obtain ⟨F1, hA, hB⟩ := hH.take [2] (by decide)
          dsimp only [addC, setC, rmC, selC, getC] at hA
          refine HL_cons rfl ?_
          refine o_call (args := #[.agg #[.int .i64 u16.1, .int .i64 u16.2.1, .slice A17 u16.2.2.1.length c17, .int .i64 u16.2.2.2.1, .int .i64 u16.2.2.2.2], .int .i64 1]) Try.func20 rfl rfl rfl (laws_markScreen.ok sb s47 F1 u16.1 u16.2.1 A17 c17 u16.2.2.1 u16.2.2.2.1 u16.2.2.2.2 1 hA _ hu52) ?_
          rintro _ s52 ⟨rfl, hD, hl53⟩
          replace hH := hB _ _ _ (Up.refl _ _ _) hD
          clear hD hA hB
          dsimp only [addC, setC, rmC, selC, getC] at hH
          try dsimp only [putL, setL, evL, getL]
          refine HL_cons rfl ?_
          refine o_assign ?_
          try dsimp only [putL, setL, evL, getL]
          refine HL_nil ?_
          refine hK51 _ _ ?_
          refine HT_seq_k ?_
          intro K66 hK66
          refine joinH H fun G67 hG67 H => ?_
          refine HT_joinK (fun l' s' => ∃ (x71 : Bool), G67 x71 = some r ∧ l' = [.agg #[.int .i64 p0_0, .int .i64 p0_1, .slice A0_2p p0_2.length c0_2p, .int .i64 p0_3, .int .i64 p0_4], .int .i64 p1, .pointer (some ⟨b2, 0, none⟩), undef, .bool false, .int .i64 u5, .slice A14 u13.1.length c14, .bool u13.2, .pointer (some ⟨b18, 0, none⟩), .slice A22 u21.1.length c22, .bool u21.2, .int .i64 u52.1, undef, undef, undef, undef, .agg #[.int .i64 p0_0, .int .i64 p0_1, .slice A0_2p p0_2.length c0_2p, .int .i64 p0_3, .int .i64 p0_4], .int .i64 1048576, .int .i64 u5, .int .i64 u5, .bool (decide (u5 < 0)), .tuple #[.slice A14 u13.1.length c14, .bool u13.2], .agg #[.int .i64 p0_0, .int .i64 p0_1, .slice A0_2p p0_2.length c0_2p, .int .i64 p0_3, .int .i64 p0_4], .agg #[.int .i64 u11.1, .int .i64 u11.2.1, .slice A12 u11.2.2.1.length c12, .int .i64 u11.2.2.2.1, .int .i64 u11.2.2.2.2], .int .i64 p1, .tuple #[.slice A14 u13.1.length c14, .bool u13.2], .slice A14 u13.1.length c14, .bool u13.2, .agg #[.int .i64 p0_0, .int .i64 p0_1, .slice A0_2p p0_2.length c0_2p, .int .i64 p0_3, .int .i64 p0_4], .agg #[.int .i64 u16.1, .int .i64 u16.2.1, .slice A17 u16.2.2.1.length c17, .int .i64 u16.2.2.2.1, .int .i64 u16.2.2.2.2], .tuple #[.slice A22 u21.1.length c22, .bool u21.2], .agg #[.int .i64 u16.1, .int .i64 u16.2.1, .slice A17 u16.2.2.1.length c17, .int .i64 u16.2.2.2.1, .int .i64 u16.2.2.2.2], .int .i64 p1, .tuple #[.slice A22 u21.1.length c22, .bool u21.2], .slice A22 u21.1.length c22, .bool u21.2, j36, j37, j38, j39, j40, j41, j42, j43, .bool x37, .agg #[.int .i64 u16.1, .int .i64 u16.2.1, .slice A17 u16.2.2.1.length c17, .int .i64 u16.2.2.2.1, .int .i64 u16.2.2.2.2], .agg #[.int .i64 p0_0, .int .i64 p0_1, .slice A0_2p p0_2.length c0_2p, .int .i64 p0_3, .int .i64 p0_4], .agg #[.int .i64 u45.1, .int .i64 u45.2.1, .slice A46 u45.2.2.1.length c46, .int .i64 u45.2.2.2.1, .int .i64 u45.2.2.2.2], .bool u47, .bool (!u47), .agg #[.int .i64 u16.1, .int .i64 u16.2.1, .slice A17 u16.2.2.1.length c17, .int .i64 u16.2.2.2.1, .int .i64 u16.2.2.2.2], .int .i64 1, .int .i64 u52.1, getL l' 53, getL l' 54, getL l' 55, getL l' 56, getL l' 57, getL l' 58, getL l' 59, getL l' 60, getL l' 61, getL l' 62, getL l' 63, getL l' 64, .bool x71, undef, undef, undef, undef, undef, undef, undef, undef, undef, undef, undef, undef, undef, undef, undef, undef, undef, undef, undef, undef, undef, undef, undef, undef, undef, undef, undef, undef, undef, undef, undef, undef, undef, undef, undef] ∧ Hp sb s F0 s' [Ck.ol OI 3 A14 c14 u13.1, Ck.ol OI 3 A22 c22 u21.1, Ck.ov b2 [.int .i64 p0_0, .int .i64 p0_1, .slice A0_2p p0_2.length c0_2p, .int .i64 p0_3, .int .i64 p0_4] 24]) ?_ ?_
          · intro K67 hK67
            refine HT_region ?_
            refine HL_cons rfl ?_
            refine o_move ?_
            try dsimp only [putL, setL, evL, getL]
            refine HL_cons rfl ?_
            refine o_bin rfl rfl rfl ?_
            try dsimp only [putL, setL, evL, getL]
            refine HL_cons rfl ?_
            refine o_move ?_
            try dsimp only [putL, setL, evL, getL]
            rcases Bool.eq_false_or_eq_true (decide (u52.1 < 0)) with hb72 | hb72
            · replace H := iteT hb72 H
              refine HL_skip ?_ ?_
              · exact wantF (j := 2) (b := false) (t := 55) (c := decide (u52.1 < 0)) rfl rfl rfl rfl hb72
              try dsimp only [putL, setL, evL, getL]
              refine HL_skip ?_ ?_
              · exact wantF (j := 2) (b := false) (t := 55) (c := decide (u52.1 < 0)) rfl rfl rfl rfl hb72
              try dsimp only [putL, setL, evL, getL]
              refine HL_skip ?_ ?_
              · exact wantF (j := 2) (b := false) (t := 55) (c := decide (u52.1 < 0)) rfl rfl rfl rfl hb72
              try dsimp only [putL, setL, evL, getL]
              refine HL_skip ?_ ?_
              · exact wantF (j := 2) (b := false) (t := 55) (c := decide (u52.1 < 0)) rfl rfl rfl rfl hb72
              try dsimp only [putL, setL, evL, getL]
              refine HL_cons rfl ?_
              refine o_pickT rfl hb72 ?_
              try dsimp only [putL, setL, evL, getL]
              refine HL_cons rfl ?_
              refine o_move ?_
              try dsimp only [putL, setL, evL, getL]
              refine HL_skip ?_ ?_
              · exact wantF (j := 8) (b := false) (t := 61) (c := true) rfl rfl rfl rfl rfl
              try dsimp only [putL, setL, evL, getL]
              refine HL_skip ?_ ?_
              · exact wantF (j := 8) (b := false) (t := 61) (c := true) rfl rfl rfl rfl rfl
              try dsimp only [putL, setL, evL, getL]
              refine HL_skip ?_ ?_
              · exact wantF (j := 8) (b := false) (t := 61) (c := true) rfl rfl rfl rfl rfl
              try dsimp only [putL, setL, evL, getL]
              refine HL_cons rfl ?_
              refine o_pickT rfl rfl ?_
              try dsimp only [putL, setL, evL, getL]
              refine HL_nil ?_
              exact hK67 _ _ ⟨true, H, rfl, hH.sel [0, 1, 3] (by decide)⟩
            · replace H := iteF hb72 H
              refine HL_want ?_ ?_
              · exact wantT (j := 2) (b := false) (t := 55) (c := decide (u52.1 < 0)) rfl rfl rfl rfl hb72
              refine o_move ?_
              try dsimp only [putL, setL, evL, getL]
              refine HL_want ?_ ?_
              · exact wantT (j := 2) (b := false) (t := 55) (c := decide (u52.1 < 0)) rfl rfl rfl rfl hb72
              refine o_move ?_
              try dsimp only [putL, setL, evL, getL]
              obtain ⟨u73, hu73, H⟩ := headE H
              refine HL_want ?_ ?_
              · exact wantT (j := 2) (b := false) (t := 55) (c := decide (u52.1 < 0)) rfl rfl rfl rfl hb72
              refine o_call (args := #[.slice A22 u21.1.length c22, .slice A14 u13.1.length c14]) Try.func17 rfl rfl rfl (laws_eqIntS.ok s52 s52 no A22 c22 u21.1 A14 c14 u13.1 (hH.rd 1 rfl) (hH.rd 0 rfl) (Hp.own (Bs.refl s52)) _ hu73) ?_
              rintro _ s73 ⟨rfl, hD⟩
              replace hH := hH.back0T hD
              clear hD
              dsimp only [addC, setC, rmC, selC, getC] at hH
              try dsimp only [putL, setL, evL, getL]
              refine HL_want ?_ ?_
              · exact wantT (j := 2) (b := false) (t := 55) (c := decide (u52.1 < 0)) rfl rfl rfl rfl hb72
              refine o_not rfl ?_
              try dsimp only [putL, setL, evL, getL]
              refine HL_cons rfl ?_
              refine o_pickF rfl hb72 ?_
              try dsimp only [putL, setL, evL, getL]
              refine HL_cons rfl ?_
              refine o_move ?_
              try dsimp only [putL, setL, evL, getL]
              rcases Bool.eq_false_or_eq_true (!u73) with hb74 | hb74
              · replace H := iteT hb74 H
                refine HL_skip ?_ ?_
                · exact wantF (j := 8) (b := false) (t := 61) (c := !u73) rfl rfl rfl rfl hb74
                try dsimp only [putL, setL, evL, getL]
                refine HL_skip ?_ ?_
                · exact wantF (j := 8) (b := false) (t := 61) (c := !u73) rfl rfl rfl rfl hb74
                try dsimp only [putL, setL, evL, getL]
                refine HL_skip ?_ ?_
                · exact wantF (j := 8) (b := false) (t := 61) (c := !u73) rfl rfl rfl rfl hb74
                try dsimp only [putL, setL, evL, getL]
                refine HL_cons rfl ?_
                refine o_pickT rfl hb74 ?_
                try dsimp only [putL, setL, evL, getL]
                refine HL_nil ?_
                exact hK67 _ _ ⟨true, H, rfl, hH.sel [0, 1, 3] (by decide)⟩
              · replace H := iteF hb74 H
                refine HL_want ?_ ?_
                · exact wantT (j := 8) (b := false) (t := 61) (c := !u73) rfl rfl rfl rfl hb74
                refine o_move ?_
                try dsimp only [putL, setL, evL, getL]
                refine HL_want ?_ ?_
                · exact wantT (j := 8) (b := false) (t := 61) (c := !u73) rfl rfl rfl rfl hb74
                refine o_move ?_
                try dsimp only [putL, setL, evL, getL]
                refine HL_want ?_ ?_
                · exact wantT (j := 8) (b := false) (t := 61) (c := !u73) rfl rfl rfl rfl hb74
                refine o_neb rfl rfl Try.underlying4 ?_
                try dsimp only [putL, setL, evL, getL]
                refine HL_cons rfl ?_
                refine o_pickF rfl hb74 ?_
                try dsimp only [putL, setL, evL, getL]
                refine HL_nil ?_
                exact hK67 _ _ ⟨u21.2 != u13.2, H, rfl, hH.sel [0, 1, 3] (by decide)⟩
          · rintro l' s75 ⟨x71, H, hl, hH⟩
            generalize getL l' 53 = j53, getL l' 54 = j54, getL l' 55 = j55, getL l' 56 = j56, getL l' 57 = j57, getL l' 58 = j58, getL l' 59 = j59, getL l' 60 = j60, getL l' 61 = j61, getL l' 62 = j62, getL l' 63 = j63, getL l' 64 = j64 at hl
            subst hl
            replace H := hG67 _ H
            try dsimp only at H
            rcases Bool.eq_false_or_eq_true x71 with hb76 | hb76
            · replace H := iteT hb76 H
              refine HT_true (congrArg Value.bool hb76) ?_
              refine HT_seq_k ?_
              intro K77 hK77
              refine HT_region ?_
              refine HL_cons rfl ?_
              refine o_assign ?_
              try dsimp only [putL, setL, evL, getL]
              refine HL_nil ?_
              refine hK77 _ _ ?_
              refine HT_ret ?_
              obtain rfl := Option.some.inj (show some _ = some r from H)
              exact hQr _ _ [.bool false] ⟨rfl, trivial⟩ ⟨rfl, hH.sel [] (by decide)⟩
            · replace H := iteF hb76 H
              refine HT_false (congrArg Value.bool hb76) ?_
              refine HT_skip ?_
              refine hK66 _ _ ?_
              refine HT_seq_k ?_
              intro K78 hK78
              refine HT_region ?_
              refine HL_cons rfl ?_
              refine o_assign ?_
              try dsimp only [putL, setL, evL, getL]
              refine HL_nil ?_
              refine hK78 _ _ ?_
              refine HT_seq_k ?_
              intro K79 hK79
              refine HT_region ?_
              refine HL_cons rfl ?_
              refine o_move ?_
              try dsimp only [putL, setL, evL, getL]
              refine HL_cons rfl ?_
              refine o_move ?_
              try dsimp only [putL, setL, evL, getL]
              obtain ⟨u80, hu80, H⟩ := headE H
              obtain ⟨F1, hA, hB⟩ := hH.take [1] (by decide)
              dsimp only [addC, setC, rmC, selC, getC] at hA
              refine HL_cons rfl ?_
              refine o_call (args := #[.slice A22 u21.1.length c22, .int .i64 1]) Try.func24 rfl rfl rfl (laws_markIntS.ok sb s75 F1 A22 c22 u21.1 1 hA _ hu80) ?_
              rintro _ s80 ⟨rfl, hD, hl81⟩
              replace hH := hB _ _ _ (Up.refl _ _ _) hD
              clear hD hA hB
              dsimp only [addC, setC, rmC, selC, getC] at hH
              try dsimp only [putL, setL, evL, getL]
              refine HL_cons rfl ?_
              refine o_assign ?_
              try dsimp only [putL, setL, evL, getL]
              refine HL_nil ?_
              refine hK79 _ _ ?_
              refine HT_seq_k ?_
              intro K82 hK82
              refine HT_region ?_
              refine HL_cons rfl ?_
              refine o_assign ?_
              try dsimp only [putL, setL, evL, getL]
              refine HL_nil ?_
              refine hK82 _ _ ?_
              refine HT_seq_k ?_
              intro K83 hK83
              refine HT_region ?_
              refine HL_cons rfl ?_
              refine o_move ?_
              try dsimp only [putL, setL, evL, getL]
              refine HL_cons rfl ?_
              refine o_move ?_
              try dsimp only [putL, setL, evL, getL]
              obtain ⟨u84, hu84, H⟩ := headE H
              refine HL_cons rfl ?_
              refine o_call (args := #[.slice A22 u80.2.length c22, .int .i64 1]) Try.func25 rfl rfl (by show ([.slice A22 u21.1.length c22, .int .i64 1] : List Value) = [.slice A22 u80.2.length c22, .int .i64 1]; rw [hl81]; first | done | rfl) (laws_heldIntS.ok s80 s80 no A22 c22 u80.2 1 (hH.rd 3 rfl) (Hp.own (Bs.refl s80)) _ hu84) ?_
              rintro _ s84 ⟨rfl, hD⟩
              replace hH := hH.back0T hD
              clear hD
              dsimp only [addC, setC, rmC, selC, getC] at hH
              try dsimp only [putL, setL, evL, getL]
              refine HL_cons rfl ?_
              refine o_assign ?_
              try dsimp only [putL, setL, evL, getL]
              refine HL_nil ?_
              refine hK83 _ _ ?_
              refine HT_seq_k ?_
              intro K85 hK85
              refine HT_seq_k ?_
              intro K86 hK86
              refine HT_region ?_
              refine HL_cons rfl ?_
              refine o_move ?_
              try dsimp only [putL, setL, evL, getL]
              refine HL_cons rfl ?_
              refine o_bin rfl rfl rfl ?_
              try dsimp only [putL, setL, evL, getL]
              refine HL_nil ?_
              refine hK86 _ _ ?_
              rcases Bool.eq_false_or_eq_true (decide (u84 < 0)) with hb87 | hb87
              · replace H := iteT hb87 H
                refine HT_true (congrArg Value.bool hb87) ?_
                refine HT_seq_k ?_
                intro K88 hK88
                refine HT_region ?_
                refine HL_cons rfl ?_
                refine o_assign ?_
                try dsimp only [putL, setL, evL, getL]
                refine HL_nil ?_
                refine hK88 _ _ ?_
                refine HT_ret ?_
                obtain rfl := Option.some.inj (show some _ = some r from H)
                exact hQr _ _ [.bool false] ⟨rfl, trivial⟩ ⟨rfl, hH.sel [] (by decide)⟩
              · replace H := iteF hb87 H
                refine HT_false (congrArg Value.bool hb87) ?_
                refine HT_skip ?_
                refine hK85 _ _ ?_
                refine HT_seq_k ?_
                intro K89 hK89
                refine HT_seq_k ?_
                intro K90 hK90
                refine HT_region ?_
                refine HL_cons rfl ?_
                refine o_move ?_
                try dsimp only [putL, setL, evL, getL]
                refine HL_cons rfl ?_
                refine o_move ?_
                try dsimp only [putL, setL, evL, getL]
                refine HL_cons rfl ?_
                refine o_bin rfl rfl rfl ?_
                try dsimp only [putL, setL, evL, getL]
                refine HL_nil ?_
                refine hK90 _ _ ?_
                rcases Bool.eq_false_or_eq_true (u84 != u80.1) with hb91 | hb91
                · replace H := iteT hb91 H
                  refine HT_true (congrArg Value.bool hb91) ?_
                  refine HT_seq_k ?_
                  intro K92 hK92
                  refine HT_region ?_
                  refine HL_cons rfl ?_
                  refine o_assign ?_
                  try dsimp only [putL, setL, evL, getL]
                  refine HL_nil ?_
                  refine hK92 _ _ ?_
                  refine HT_ret ?_
                  obtain rfl := Option.some.inj (show some _ = some r from H)
                  exact hQr _ _ [.bool false] ⟨rfl, trivial⟩ ⟨rfl, hH.sel [] (by decide)⟩
                · replace H := iteF hb91 H
                  refine HT_false (congrArg Value.bool hb91) ?_
                  refine HT_skip ?_
                  refine hK89 _ _ ?_
                  refine HT_seq_k ?_
                  intro K93 hK93
                  refine HT_region ?_
                  refine HL_cons rfl ?_
                  refine o_loads' [.int .i64 p0_0, .int .i64 p0_1, .slice A0_2p p0_2.length c0_2p, .int .i64 p0_3, .int .i64 p0_4] rfl Try.underlying24 rfl tI24 rfl (hH.partv 2 rfl (0) [.int .i64 p0_0, .int .i64 p0_1, .slice A0_2p p0_2.length c0_2p, .int .i64 p0_3, .int .i64 p0_4] rfl) ?_
                  try dsimp only [putL, setL, evL, getL]
                  obtain ⟨u94, hu94, H⟩ := headE H
                  refine HL_cons rfl ?_
                  refine o_call (args := #[.agg #[.int .i64 p0_0, .int .i64 p0_1, .slice A0_2p p0_2.length c0_2p, .int .i64 p0_3, .int .i64 p0_4]]) Try.func11 rfl rfl rfl (laws_toScreen.ok sb s84 no p0_0 p0_1 A0_2p c0_2p p0_2 p0_3 p0_4 HRp0_2 (Hp.own hH.bs) _ hu94) ?_
                  rintro _ s94 ⟨A95, c95, rfl, hD⟩
                  replace hH := hH.back0 hD (Up.refl _ _ _)
                  clear hD
                  dsimp only [addC, setC, rmC, selC, getC] at hH
                  try dsimp only [putL, setL, evL, getL]
                  refine HL_cons rfl ?_
                  refine o_move ?_
                  try dsimp only [putL, setL, evL, getL]
                  obtain ⟨u96, hu96, H⟩ := headE H
                  refine HL_cons rfl ?_
                  refine o_call (args := #[.agg #[.int .i64 u94.1, .int .i64 u94.2.1, .slice A95 u94.2.2.1.length c95, .int .i64 u94.2.2.2.1, .int .i64 u94.2.2.2.2], .int .i64 p1]) Try.func29 rfl rfl rfl (impl_RowOf.ok s94 s94 no u94.1 u94.2.1 A95 c95 u94.2.2.1 u94.2.2.2.1 u94.2.2.2.2 p1 (hH.rd 4 rfl) (Hp.own (Bs.refl s94)) _ hu96) ?_
                  rintro _ s96 ⟨A97, c97, rfl, hD⟩
                  replace hH := hH.back0T hD
                  clear hD
                  dsimp only [addC, setC, rmC, selC, getC] at hH
                  try dsimp only [putL, setL, evL, getL]
                  refine HL_cons rfl ?_
                  refine o_move ?_
                  try dsimp only [putL, setL, evL, getL]
                  refine HL_cons rfl ?_
                  refine o_extract rfl rfl ?_
                  try dsimp only [putL, setL, evL, getL]
                  refine HL_cons rfl ?_
                  refine o_extract rfl rfl ?_
                  try dsimp only [putL, setL, evL, getL]
                  refine HL_cons rfl ?_
                  refine o_assign ?_
                  try dsimp only [putL, setL, evL, getL]
                  refine HL_cons rfl ?_
                  refine o_assign ?_
                  try dsimp only [putL, setL, evL, getL]
                  refine HL_nil ?_
                  refine hK93 _ _ ?_
                  refine HT_seq_k ?_
                  intro K108 hK108
                  refine joinH H fun G109 hG109 H => ?_
                  refine HT_joinK (fun l' s' => ∃ (x112 : Bool), G109 x112 = some r ∧ l' = [.agg #[.int .i64 p0_0, .int .i64 p0_1, .slice A0_2p p0_2.length c0_2p, .int .i64 p0_3, .int .i64 p0_4], .int .i64 p1, .pointer (some ⟨b2, 0, none⟩), undef, .bool false, .int .i64 u5, .slice A14 u13.1.length c14, .bool u13.2, .pointer (some ⟨b18, 0, none⟩), .slice A22 u21.1.length c22, .bool u21.2, .int .i64 u52.1, .int .i64 u80.1, .int .i64 u84, .slice A97 u96.1.length c97, .bool u96.2, .agg #[.int .i64 p0_0, .int .i64 p0_1, .slice A0_2p p0_2.length c0_2p, .int .i64 p0_3, .int .i64 p0_4], .int .i64 1048576, .int .i64 u5, .int .i64 u5, .bool (decide (u5 < 0)), .tuple #[.slice A14 u13.1.length c14, .bool u13.2], .agg #[.int .i64 p0_0, .int .i64 p0_1, .slice A0_2p p0_2.length c0_2p, .int .i64 p0_3, .int .i64 p0_4], .agg #[.int .i64 u11.1, .int .i64 u11.2.1, .slice A12 u11.2.2.1.length c12, .int .i64 u11.2.2.2.1, .int .i64 u11.2.2.2.2], .int .i64 p1, .tuple #[.slice A14 u13.1.length c14, .bool u13.2], .slice A14 u13.1.length c14, .bool u13.2, .agg #[.int .i64 p0_0, .int .i64 p0_1, .slice A0_2p p0_2.length c0_2p, .int .i64 p0_3, .int .i64 p0_4], .agg #[.int .i64 u16.1, .int .i64 u16.2.1, .slice A17 u16.2.2.1.length c17, .int .i64 u16.2.2.2.1, .int .i64 u16.2.2.2.2], .tuple #[.slice A22 u21.1.length c22, .bool u21.2], .agg #[.int .i64 u16.1, .int .i64 u16.2.1, .slice A17 u16.2.2.1.length c17, .int .i64 u16.2.2.2.1, .int .i64 u16.2.2.2.2], .int .i64 p1, .tuple #[.slice A22 u21.1.length c22, .bool u21.2], .slice A22 u21.1.length c22, .bool u21.2, j36, j37, j38, j39, j40, j41, j42, j43, .bool x37, .agg #[.int .i64 u16.1, .int .i64 u16.2.1, .slice A17 u16.2.2.1.length c17, .int .i64 u16.2.2.2.1, .int .i64 u16.2.2.2.2], .agg #[.int .i64 p0_0, .int .i64 p0_1, .slice A0_2p p0_2.length c0_2p, .int .i64 p0_3, .int .i64 p0_4], .agg #[.int .i64 u45.1, .int .i64 u45.2.1, .slice A46 u45.2.2.1.length c46, .int .i64 u45.2.2.2.1, .int .i64 u45.2.2.2.2], .bool u47, .bool (!u47), .agg #[.int .i64 u16.1, .int .i64 u16.2.1, .slice A17 u16.2.2.1.length c17, .int .i64 u16.2.2.2.1, .int .i64 u16.2.2.2.2], .int .i64 1, .int .i64 u52.1, j53, j54, j55, j56, j57, j58, j59, j60, j61, j62, j63, j64, .bool x71, .slice A22 u21.1.length c22, .int .i64 1, .int .i64 u80.1, .slice A22 u21.1.length c22, .int .i64 1, .int .i64 u84, .int .i64 u84, .bool (decide (u84 < 0)), .int .i64 u84, .int .i64 u80.1, .bool (u84 != u80.1), .tuple #[.slice A97 u96.1.length c97, .bool u96.2], .agg #[.int .i64 p0_0, .int .i64 p0_1, .slice A0_2p p0_2.length c0_2p, .int .i64 p0_3, .int .i64 p0_4], .agg #[.int .i64 u94.1, .int .i64 u94.2.1, .slice A95 u94.2.2.1.length c95, .int .i64 u94.2.2.2.1, .int .i64 u94.2.2.2.2], .int .i64 p1, .tuple #[.slice A97 u96.1.length c97, .bool u96.2], .slice A97 u96.1.length c97, .bool u96.2, getL l' 84, getL l' 85, getL l' 86, getL l' 87, getL l' 88, getL l' 89, getL l' 90, getL l' 91, .bool x112, undef, undef, undef, undef, undef, undef, undef, undef] ∧ Hp sb s F0 s' [Ck.ol OI 3 A22 c22 u80.2]) ?_ ?_
                  · intro K109 hK109
                    refine HT_region ?_
                    refine HL_cons rfl ?_
                    refine o_move ?_
                    try dsimp only [putL, setL, evL, getL]
                    refine HL_cons rfl ?_
                    refine o_move ?_
                    try dsimp only [putL, setL, evL, getL]
                    obtain ⟨u113, hu113, H⟩ := headE H
                    refine HL_cons rfl ?_
                    refine o_call (args := #[.slice A97 u96.1.length c97, .slice A14 u13.1.length c14]) Try.func17 rfl rfl rfl (laws_eqIntS.ok s96 s96 no A97 c97 u96.1 A14 c14 u13.1 (hH.rd 5 rfl) (hH.rd 0 rfl) (Hp.own (Bs.refl s96)) _ hu113) ?_
                    rintro _ s113 ⟨rfl, hD⟩
                    replace hH := hH.back0T hD
                    clear hD
                    dsimp only [addC, setC, rmC, selC, getC] at hH
                    try dsimp only [putL, setL, evL, getL]
                    refine HL_cons rfl ?_
                    refine o_not rfl ?_
                    try dsimp only [putL, setL, evL, getL]
                    refine HL_cons rfl ?_
                    refine o_move ?_
                    try dsimp only [putL, setL, evL, getL]
                    rcases Bool.eq_false_or_eq_true (!u113) with hb114 | hb114
                    · replace H := iteT hb114 H
                      refine HL_skip ?_ ?_
                      · exact wantF (j := 4) (b := false) (t := 88) (c := !u113) rfl rfl rfl rfl hb114
                      try dsimp only [putL, setL, evL, getL]
                      refine HL_skip ?_ ?_
                      · exact wantF (j := 4) (b := false) (t := 88) (c := !u113) rfl rfl rfl rfl hb114
                      try dsimp only [putL, setL, evL, getL]
                      refine HL_skip ?_ ?_
                      · exact wantF (j := 4) (b := false) (t := 88) (c := !u113) rfl rfl rfl rfl hb114
                      try dsimp only [putL, setL, evL, getL]
                      refine HL_cons rfl ?_
                      refine o_pickT rfl hb114 ?_
                      try dsimp only [putL, setL, evL, getL]
                      refine HL_nil ?_
                      exact hK109 _ _ ⟨true, H, rfl, hH.sel [3] (by decide)⟩
                    · replace H := iteF hb114 H
                      refine HL_want ?_ ?_
                      · exact wantT (j := 4) (b := false) (t := 88) (c := !u113) rfl rfl rfl rfl hb114
                      refine o_move ?_
                      try dsimp only [putL, setL, evL, getL]
                      refine HL_want ?_ ?_
                      · exact wantT (j := 4) (b := false) (t := 88) (c := !u113) rfl rfl rfl rfl hb114
                      refine o_move ?_
                      try dsimp only [putL, setL, evL, getL]
                      refine HL_want ?_ ?_
                      · exact wantT (j := 4) (b := false) (t := 88) (c := !u113) rfl rfl rfl rfl hb114
                      refine o_neb rfl rfl Try.underlying4 ?_
                      try dsimp only [putL, setL, evL, getL]
                      refine HL_cons rfl ?_
                      refine o_pickF rfl hb114 ?_
                      try dsimp only [putL, setL, evL, getL]
                      refine HL_nil ?_
                      exact hK109 _ _ ⟨u96.2 != u13.2, H, rfl, hH.sel [3] (by decide)⟩
                  · rintro l' s115 ⟨x112, H, hl, hH⟩
                    generalize getL l' 84 = j84, getL l' 85 = j85, getL l' 86 = j86, getL l' 87 = j87, getL l' 88 = j88, getL l' 89 = j89, getL l' 90 = j90, getL l' 91 = j91 at hl
                    subst hl
                    replace H := hG109 _ H
                    try dsimp only at H
                    rcases Bool.eq_false_or_eq_true x112 with hb116 | hb116
                    · replace H := iteT hb116 H
                      refine HT_true (congrArg Value.bool hb116) ?_
                      refine HT_seq_k ?_
                      intro K117 hK117
                      refine HT_region ?_
                      refine HL_cons rfl ?_
                      refine o_assign ?_
                      try dsimp only [putL, setL, evL, getL]
                      refine HL_nil ?_
                      refine hK117 _ _ ?_
                      refine HT_ret ?_
                      obtain rfl := Option.some.inj (show some _ = some r from H)
                      exact hQr _ _ [.bool false] ⟨rfl, trivial⟩ ⟨rfl, hH.sel [] (by decide)⟩
                    · replace H := iteF hb116 H
                      refine HT_false (congrArg Value.bool hb116) ?_
                      refine HT_skip ?_
                      refine hK108 _ _ ?_
                      refine HT_seq_k ?_
                      intro K118 hK118
                      refine HT_region ?_
                      refine HL_cons rfl ?_
                      refine o_assign ?_
                      try dsimp only [putL, setL, evL, getL]
                      refine HL_nil ?_
                      refine hK118 _ _ ?_
                      refine HT_seq_k ?_
                      intro K119 hK119
                      refine HT_region ?_
                      refine HL_cons rfl ?_
                      refine o_move ?_
                      try dsimp only [putL, setL, evL, getL]
                      refine HL_cons rfl ?_
                      refine o_move ?_
                      try dsimp only [putL, setL, evL, getL]
                      obtain ⟨u120, hu120, H⟩ := headE H
                      refine HL_cons rfl ?_
                      refine o_call (args := #[.slice A22 u80.2.length c22, .int .i64 1]) Try.func25 rfl rfl (by show ([.slice A22 u21.1.length c22, .int .i64 1] : List Value) = [.slice A22 u80.2.length c22, .int .i64 1]; rw [hl81]; first | done | rfl) (laws_heldIntS.ok s115 s115 no A22 c22 u80.2 1 (hH.rd 0 rfl) (Hp.own (Bs.refl s115)) _ hu120) ?_
                      rintro _ s120 ⟨rfl, hD⟩
                      replace hH := hH.back0T hD
                      clear hD
                      dsimp only [addC, setC, rmC, selC, getC] at hH
                      try dsimp only [putL, setL, evL, getL]
                      refine HL_cons rfl ?_
                      refine o_assign ?_
                      try dsimp only [putL, setL, evL, getL]
                      refine HL_nil ?_
                      refine hK119 _ _ ?_
                      refine HT_seq_k ?_
                      intro K121 hK121
                      refine HT_seq_k ?_
                      intro K122 hK122
                      refine HT_region ?_
                      refine HL_cons rfl ?_
                      refine o_move ?_
                      try dsimp only [putL, setL, evL, getL]
                      refine HL_cons rfl ?_
                      refine o_bin rfl rfl rfl ?_
                      try dsimp only [putL, setL, evL, getL]
                      refine HL_nil ?_
                      refine hK122 _ _ ?_
                      rcases Bool.eq_false_or_eq_true (decide (u120 < 0)) with hb123 | hb123
                      · replace H := iteT hb123 H
                        refine HT_true (congrArg Value.bool hb123) ?_
                        refine HT_seq_k ?_
                        intro K124 hK124
                        refine HT_region ?_
                        refine HL_cons rfl ?_
                        refine o_assign ?_
                        try dsimp only [putL, setL, evL, getL]
                        refine HL_nil ?_
                        refine hK124 _ _ ?_
                        refine HT_ret ?_
                        obtain rfl := Option.some.inj (show some _ = some r from H)
                        exact hQr _ _ [.bool false] ⟨rfl, trivial⟩ ⟨rfl, hH.sel [] (by decide)⟩
                      · replace H := iteF hb123 H
                        refine HT_false (congrArg Value.bool hb123) ?_
                        refine HT_skip ?_
                        refine hK121 _ _ ?_
                        refine HT_seq_k ?_
                        intro K125 hK125
                        refine HT_seq_k ?_
                        intro K126 hK126
                        refine HT_region ?_
                        refine HL_cons rfl ?_
                        refine o_move ?_
                        try dsimp only [putL, setL, evL, getL]
                        refine HL_cons rfl ?_
                        refine o_move ?_
                        try dsimp only [putL, setL, evL, getL]
                        refine HL_cons rfl ?_
                        refine o_bin rfl rfl rfl ?_
                        try dsimp only [putL, setL, evL, getL]
                        refine HL_nil ?_
                        refine hK126 _ _ ?_
                        rcases Bool.eq_false_or_eq_true (u120 != u80.1) with hb127 | hb127
                        · replace H := iteT hb127 H
                          refine HT_true (congrArg Value.bool hb127) ?_
                          refine HT_seq_k ?_
                          intro K128 hK128
                          refine HT_region ?_
                          refine HL_cons rfl ?_
                          refine o_assign ?_
                          try dsimp only [putL, setL, evL, getL]
                          refine HL_nil ?_
                          refine hK128 _ _ ?_
                          refine HT_ret ?_
                          obtain rfl := Option.some.inj (show some _ = some r from H)
                          exact hQr _ _ [.bool false] ⟨rfl, trivial⟩ ⟨rfl, hH.sel [] (by decide)⟩
                        · replace H := iteF hb127 H
                          refine HT_false (congrArg Value.bool hb127) ?_
                          refine HT_skip ?_
                          refine hK125 _ _ ?_
                          refine HT_seq_k ?_
                          intro K129 hK129
                          refine HT_region ?_
                          refine HL_cons rfl ?_
                          refine o_assign ?_
                          try dsimp only [putL, setL, evL, getL]
                          refine HL_nil ?_
                          refine hK129 _ _ ?_
                          refine HT_ret ?_
                          obtain rfl := Option.some.inj (show some _ = some r from H)
                          exact hQr _ _ [.bool true] ⟨rfl, trivial⟩ ⟨rfl, hH.sel [] (by decide)⟩
end Go.Proofs.Ytihocjbngajjkaa
