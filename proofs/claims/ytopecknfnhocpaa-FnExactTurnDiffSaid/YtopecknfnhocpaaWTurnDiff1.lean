/- The functions that the law reaches, as plain functions, each with its contract: printed by a program of the prover's. No conditions: lemmas. -/
import Derived.Test.YtopecknfnhocpaaWTurnDiff0
set_option linter.unusedVariables false
set_option linter.unusedSimpArgs false
namespace Go.Proofs.Ytopecknfnhocpaa
open Go Go.Proofs.GL
def laws_eqEditS.l1 (p0 : List ((Int) × (List (Int)))) (p1 : List ((Int) × (List (Int)))) : Nat → Int → Option (Lo Unit Bool)
  | 0, _ => none
  | kf + 1, x60 => if (decide (x60 < (p0.length : Int))) = true then ((rd? p0 x60).bind fun u80 => (rd? p1 x60).bind fun u82 => (laws_eqEdit.f u80.1 u80.2 u82.1 u82.2).bind fun u84 => if (!u84) = true then ((some false).bind fun z => some (Lo.ret z)) else (laws_eqEditS.l1 p0 p1 kf (IntKind.i64.wrap (x60 + 1)))) else (some (Lo.go ()))
def laws_eqEditS.f (p0 : List ((Int) × (List (Int)))) (p1 : List ((Int) × (List (Int)))) : Option Bool := if ((p0.length : Int) != (p1.length : Int)) = true then (some false) else ((laws_eqEditS.l1 p0 p1 ((((p0.length : Int)) - (0)).toNat + 2) 0).bind fun (o : Lo Unit Bool) => match o with | .go () => (some true) | .ret z => some z)
def laws_eqEditS.post (sb s : St) (F0 : Fp) (r : Bool) : Value → St → Prop := fun v s' => v = .bool r ∧ Hp sb s F0 s' []
set_option maxRecDepth 100000 in
set_option maxHeartbeats 4000000 in
theorem laws_eqEditS.ok (sb s : St) (F0 : Fp) (A0p : Option Addr) (c0p : Nat) (p0 : List ((Int) × (List (Int)))) (A1p : Option Addr) (c1p : Nat) (p1 : List ((Int) × (List (Int)))) (HRp0 : Rd KS99 sb A0p c0p p0) (HRp1 : Rd KS99 sb A1p c1p p1) (hH : Hp sb s F0 s []) (r : Bool) (H : laws_eqEditS.f p0 p1 = some r) : GCall Try.prog 32 #[.slice A0p p0.length c0p, .slice A1p p1.length c1p] s (laws_eqEditS.post sb s F0 r) := by
  refine GCall_ofk [.tmp 4] [.slice A0p p0.length c0p, .slice A1p p1.length c1p, undef, undef, undef, undef, undef, undef, undef, undef, undef, undef, undef, undef, undef, undef, undef, undef, undef, undef, undef, undef, undef, undef, undef, undef, undef] Try.func32 rfl rfl rfl ?_
  intro w Q hQr hQn hQp
  replace H := topE H
  unfold laws_eqEditS.f at H
  refine HT_seq_k ?_
  intro K1 hK1
  refine HT_region ?_
  refine HL_cons rfl ?_
  refine o_assign ?_
  try dsimp only [putL, setL, evL, getL]
  refine HL_nil ?_
  refine hK1 _ _ ?_
  refine HT_seq_k ?_
  intro K2 hK2
  refine HT_seq_k ?_
  intro K3 hK3
  refine HT_region ?_
  refine HL_cons rfl ?_
  refine o_move ?_
  try dsimp only [putL, setL, evL, getL]
  refine HL_cons rfl ?_
  refine o_len rfl Try.underlying40 ?_
  try dsimp only [putL, setL, evL, getL]
  refine HL_cons rfl ?_
  refine o_move ?_
  try dsimp only [putL, setL, evL, getL]
  refine HL_cons rfl ?_
  refine o_len rfl Try.underlying40 ?_
  try dsimp only [putL, setL, evL, getL]
  refine HL_cons rfl ?_
  refine o_bin rfl rfl rfl ?_
  try dsimp only [putL, setL, evL, getL]
  refine HL_nil ?_
  refine hK3 _ _ ?_
  rcases Bool.eq_false_or_eq_true ((p0.length : Int) != (p1.length : Int)) with hb4 | hb4
  · replace H := iteT hb4 H
    refine HT_true (congrArg Value.bool hb4) ?_
    refine HT_seq_k ?_
    intro K5 hK5
    refine HT_region ?_
    refine HL_cons rfl ?_
    refine o_assign ?_
    try dsimp only [putL, setL, evL, getL]
    refine HL_nil ?_
    refine hK5 _ _ ?_
    refine HT_ret ?_
    obtain rfl := Option.some.inj (show some _ = some r from H)
    exact hQr _ _ [.bool false] ⟨rfl, trivial⟩ ⟨rfl, hH⟩
  · replace H := iteF hb4 H
    refine HT_false (congrArg Value.bool hb4) ?_
    refine HT_skip ?_
    refine hK2 _ _ ?_
    refine HT_seq_k ?_
    intro K6 hK6
    refine HT_seq_k ?_
    intro K7 hK7
    refine HT_region ?_
    refine HL_cons rfl ?_
    refine o_assign ?_
    try dsimp only [putL, setL, evL, getL]
    refine HL_nil ?_
    refine hK7 _ _ ?_
    refine joinH H fun G8 hG8 H => ?_
    refine HT_toK (fun l' s' => G8 (.go ()) = some r ∧ l' = [.slice A0p p0.length c0p, .slice A1p p1.length c1p, undef, undef, getL l' 4, getL l' 5, .slice A0p p0.length c0p, .int .i64 (p0.length : Int), .slice A1p p1.length c1p, .int .i64 (p1.length : Int), .bool ((p0.length : Int) != (p1.length : Int)), getL l' 11, getL l' 12, getL l' 13, getL l' 14, getL l' 15, getL l' 16, getL l' 17, getL l' 18, getL l' 19, getL l' 20, getL l' 21, getL l' 22, getL l' 23, getL l' 24, getL l' 25, getL l' 26] ∧ Hp sb s F0 s' []) ?_ ?_
    · intro K8 hK8
      refine HT_block ?_
      refine HT_loopK (fun kf l' s' => ∃ (x60 : Int), (laws_eqEditS.l1 p0 p1 kf x60).bind G8 = some r ∧ l' = [.slice A0p p0.length c0p, .slice A1p p1.length c1p, undef, undef, getL l' 4, .int .i64 x60, .slice A0p p0.length c0p, .int .i64 (p0.length : Int), .slice A1p p1.length c1p, .int .i64 (p1.length : Int), .bool ((p0.length : Int) != (p1.length : Int)), getL l' 11, getL l' 12, getL l' 13, getL l' 14, getL l' 15, getL l' 16, getL l' 17, getL l' 18, getL l' 19, getL l' 20, getL l' 21, getL l' 22, getL l' 23, getL l' 24, getL l' 25, getL l' 26] ∧ Hp sb s F0 s' []) ((((p0.length : Int)) - (0)).toNat + 2) ⟨0, H, rfl, hH⟩ ?_
      rintro kf l' s74 ⟨x60, H, hl, hH⟩ K74 hK74
      generalize getL l' 4 = j4, getL l' 11 = j11, getL l' 12 = j12, getL l' 13 = j13, getL l' 14 = j14, getL l' 15 = j15, getL l' 16 = j16, getL l' 17 = j17, getL l' 18 = j18, getL l' 19 = j19, getL l' 20 = j20, getL l' 21 = j21, getL l' 22 = j22, getL l' 23 = j23, getL l' 24 = j24, getL l' 25 = j25, getL l' 26 = j26 at hl
      subst hl
      cases kf with
      | zero => simp [laws_eqEditS.l1] at H
      | succ kf =>
        rw [laws_eqEditS.l1] at H
        refine HT_seq_k ?_
        intro K75 hK75
        refine HT_seq_k ?_
        intro K76 hK76
        refine HT_region ?_
        refine HL_cons rfl ?_
        refine o_move ?_
        try dsimp only [putL, setL, evL, getL]
        refine HL_cons rfl ?_
        refine o_move ?_
        try dsimp only [putL, setL, evL, getL]
        refine HL_cons rfl ?_
        refine o_len rfl Try.underlying40 ?_
        try dsimp only [putL, setL, evL, getL]
        refine HL_cons rfl ?_
        refine o_bin rfl rfl rfl ?_
        try dsimp only [putL, setL, evL, getL]
        refine HL_nil ?_
        refine hK76 _ _ ?_
        rcases Bool.eq_false_or_eq_true (decide (x60 < (p0.length : Int))) with hb77 | hb77
        · replace H := iteT hb77 H
          refine HT_true (congrArg Value.bool hb77) ?_
          refine HT_skip ?_
          refine hK75 _ _ ?_
          refine HT_seq_k ?_
          intro K78 hK78
          refine HT_block ?_
          refine HT_seq_k ?_
          intro K79 hK79
          refine HK_draw (fun s' => Gro s74 s') 11 hMix ?_
          have hR := Gro.refl s74
          have hH0 := hH
          refine HK_readP 0 (v := .slice A0p p0.length c0p) rfl (by kernel_rfl) (fun c l s h => hQp c l s h) rfl (fun s' K hK => ?_) rfl rfl (fun _ => hR) ?_
          · refine o_move ?_
            exact hK
          try dsimp only [putL, setL, evL, getL]
          refine HK_readP 1 (v := .int .i64 x60) rfl (by kernel_rfl) (fun c l s h => hQp c l s h) rfl (fun s' K hK => ?_) rfl rfl (fun _ => hR) ?_
          · refine o_move ?_
            exact hK
          try dsimp only [putL, setL, evL, getL]
          obtain ⟨u80, hu80, H⟩ := headE H
          obtain ⟨b80, o80, cs80, hr80, hh80, hel80⟩ := Rd.elb HRp0 hu80
          obtain ⟨_, _, rfl, rfl, ⟨A81, c81, rfl, D81⟩⟩ := hr80
          refine HK_readP 2 (v := .pointer (some ⟨b80, o80, none⟩)) rfl (by kernel_rfl) (fun c l s h => hQp c l s h) rfl (fun s' K hK => ?_) rfl rfl (fun _ => hR) ?_
          · refine hel80 s' rfl rfl Try.underlying40 tI99 ?_
            exact hK
          try dsimp only [putL, setL, evL, getL]
          refine HK_read 3 (v := .agg #[.int .i64 u80.1, .slice A81 u80.2.length c81]) rfl (by kernel_rfl) (fun c l s h => hQp c l s h) rfl (fun s' hR' K hK => ?_) rfl rfl hR ?_
          · refine o_loads' [.int .i64 u80.1, .slice A81 u80.2.length c81] rfl Try.underlying99 rfl tI99 rfl (fun j v hj => (hh80 (hH0.bs.mono.trans hR'.mono)) j v hj) ?_
            exact hK
          try dsimp only [putL, setL, evL, getL]
          refine HK_readP 4 (v := .slice A1p p1.length c1p) rfl (by kernel_rfl) (fun c l s h => hQp c l s h) rfl (fun s' K hK => ?_) rfl rfl (fun _ => hR) ?_
          · refine o_move ?_
            exact hK
          try dsimp only [putL, setL, evL, getL]
          refine HK_readP 5 (v := .int .i64 x60) rfl (by kernel_rfl) (fun c l s h => hQp c l s h) rfl (fun s' K hK => ?_) rfl rfl (fun _ => hR) ?_
          · refine o_move ?_
            exact hK
          try dsimp only [putL, setL, evL, getL]
          obtain ⟨u82, hu82, H⟩ := headE H
          obtain ⟨b82, o82, cs82, hr82, hh82, hel82⟩ := Rd.elb HRp1 hu82
          obtain ⟨_, _, rfl, rfl, ⟨A83, c83, rfl, D83⟩⟩ := hr82
          refine HK_readP 6 (v := .pointer (some ⟨b82, o82, none⟩)) rfl (by kernel_rfl) (fun c l s h => hQp c l s h) rfl (fun s' K hK => ?_) rfl rfl (fun _ => hR) ?_
          · refine hel82 s' rfl rfl Try.underlying40 tI99 ?_
            exact hK
          try dsimp only [putL, setL, evL, getL]
          refine HK_read 7 (v := .agg #[.int .i64 u82.1, .slice A83 u82.2.length c83]) rfl (by kernel_rfl) (fun c l s h => hQp c l s h) rfl (fun s' hR' K hK => ?_) rfl rfl hR ?_
          · refine o_loads' [.int .i64 u82.1, .slice A83 u82.2.length c83] rfl Try.underlying99 rfl tI99 rfl (fun j v hj => (hh82 (hH0.bs.mono.trans hR'.mono)) j v hj) ?_
            exact hK
          try dsimp only [putL, setL, evL, getL]
          obtain ⟨u84, hu84, H⟩ := headE H
          refine HK_one 8 (by kernel_rfl) rfl (fun _ => hR) rfl ?_
          refine o_call (args := #[.agg #[.int .i64 u80.1, .slice A81 u80.2.length c81], .agg #[.int .i64 u82.1, .slice A83 u82.2.length c83]]) Try.func95 rfl rfl rfl (laws_eqEdit.ok sb s74 no u80.1 A81 c81 u80.2 u82.1 A83 c83 u82.2 D81 D83 (Hp.own hH.bs) _ hu84) ?_
          rintro _ s84 ⟨rfl, hD⟩
          replace hR := hR.trans hD.gro
          replace hH := hH.back0 hD (Up.refl _ _ _)
          clear hD
          dsimp only [addC, setC, rmC, selC, getC] at hH
          try dsimp only [putL, setL, evL, getL]
          refine HK_readP 9 (v := .bool (!u84)) rfl (by kernel_rfl) (fun c l s h => hQp c l s h) rfl (fun s' K hK => ?_) rfl rfl (fun _ => hR) ?_
          · refine o_not rfl ?_
            exact hK
          try dsimp only [putL, setL, evL, getL]
          refine HK_done (fun _ => hR) (by kernel_rfl) ?_
          refine hK79 _ _ ?_
          rcases Bool.eq_false_or_eq_true (!u84) with hb85 | hb85
          · replace H := iteT hb85 H
            refine HT_true (congrArg Value.bool hb85) ?_
            refine HT_seq_k ?_
            intro K86 hK86
            refine HT_region ?_
            refine HL_cons rfl ?_
            refine o_assign ?_
            try dsimp only [putL, setL, evL, getL]
            refine HL_nil ?_
            refine hK86 _ _ ?_
            refine HT_ret ?_
            replace H := escH (fun z hz => hG8 _ hz) H
            obtain rfl := Option.some.inj (show some _ = some r from H)
            exact hQr _ _ [.bool false] ⟨rfl, trivial⟩ ⟨rfl, hH⟩
          · replace H := iteF hb85 H
            refine HT_false (congrArg Value.bool hb85) ?_
            refine HT_skip ?_
            refine hK78 _ _ ?_
            refine HT_region ?_
            refine HL_cons rfl ?_
            refine o_move ?_
            try dsimp only [putL, setL, evL, getL]
            refine HL_cons rfl ?_
            refine o_bin rfl rfl rfl ?_
            try dsimp only [putL, setL, evL, getL]
            refine HL_cons rfl ?_
            refine o_assign ?_
            try dsimp only [putL, setL, evL, getL]
            refine HL_nil ?_
            exact hK74 _ _ ⟨kf, Nat.lt_succ_self kf, IntKind.i64.wrap (x60 + 1), H, rfl, hH⟩
        · replace H := iteF hb77 H
          refine HT_false (congrArg Value.bool hb77) ?_
          refine HT_exit ?_
          exact hK8 _ _ ⟨H, rfl, hH⟩
    · rintro l' s87 ⟨H, hl, hH⟩
      generalize getL l' 4 = j4, getL l' 5 = j5, getL l' 11 = j11, getL l' 12 = j12, getL l' 13 = j13, getL l' 14 = j14, getL l' 15 = j15, getL l' 16 = j16, getL l' 17 = j17, getL l' 18 = j18, getL l' 19 = j19, getL l' 20 = j20, getL l' 21 = j21, getL l' 22 = j22, getL l' 23 = j23, getL l' 24 = j24, getL l' 25 = j25, getL l' 26 = j26 at hl
      subst hl
      replace H := hG8 _ H
      try dsimp only at H
      refine hK6 _ _ ?_
      refine HT_seq_k ?_
      intro K88 hK88
      refine HT_region ?_
      refine HL_cons rfl ?_
      refine o_assign ?_
      try dsimp only [putL, setL, evL, getL]
      refine HL_nil ?_
      refine hK88 _ _ ?_
      refine HT_ret ?_
      obtain rfl := Option.some.inj (show some _ = some r from H)
      exact hQr _ _ [.bool true] ⟨rfl, trivial⟩ ⟨rfl, hH⟩
def laws_markIntS.l1 (p0 : List (Int)) : Nat → (List (Int)) → Int → Int → Option (Int × (List (Int)))
  | 0, _, _, _ => none
  | kf + 1, x42, x43, x44 => if (decide (x44 < (p0.length : Int))) = true then ((rd? x42 x44).bind fun u61 => (st? x42 x44 x43).bind fun x62 => laws_markIntS.l1 p0 kf x62 (IntKind.i64.wrap (x43 + 1)) (IntKind.i64.wrap (x44 + 1))) else (some (x43, x42))
def laws_markIntS.f (p0 : List (Int)) (p1 : Int) : Option (Int × (List (Int))) := (laws_markIntS.l1 p0 ((((p0.length : Int)) - (0)).toNat + 2) p0 p1 0).bind fun (o : Int × (List (Int))) => match o with | (x33, x34) => (some (x33, x34))
def laws_markIntS.post (sb s : St) (F0 : Fp) (A0p : Option Addr) (c0p : Nat) (p0 : List (Int)) (r : Int × (List (Int))) : Value → St → Prop := fun v s' => v = .int .i64 r.1 ∧ Hp sb s F0 s' [Ck.ol OI 3 A0p c0p r.2] ∧ r.2.length = p0.length
set_option maxRecDepth 100000 in
set_option maxHeartbeats 4000000 in
theorem laws_markIntS.ok (sb s : St) (F0 : Fp) (A0p : Option Addr) (c0p : Nat) (p0 : List (Int)) (p1 : Int) (hH : Hp sb s F0 s [Ck.ol OI 3 A0p c0p p0]) (r : Int × (List (Int))) (H : laws_markIntS.f p0 p1 = some r) : GCall Try.prog 19 #[.slice A0p p0.length c0p, .int .i64 p1] s (laws_markIntS.post sb s F0 A0p c0p p0 r) := by
  refine GCall_ofk [.tmp 4] [.slice A0p p0.length c0p, .int .i64 p1, undef, undef, undef, undef, undef, undef, undef, undef, undef, undef, undef, undef, undef, undef, undef, undef, undef] Try.func19 rfl rfl rfl ?_
  intro w Q hQr hQn hQp
  replace H := topE H
  unfold laws_markIntS.f at H
  refine HT_seq_k ?_
  intro K1 hK1
  refine HT_region ?_
  refine HL_cons rfl ?_
  refine o_assign ?_
  try dsimp only [putL, setL, evL, getL]
  refine HL_nil ?_
  refine hK1 _ _ ?_
  refine HT_seq_k ?_
  intro K2 hK2
  refine HT_seq_k ?_
  intro K3 hK3
  refine HT_region ?_
  refine HL_cons rfl ?_
  refine o_assign ?_
  try dsimp only [putL, setL, evL, getL]
  refine HL_nil ?_
  refine hK3 _ _ ?_
  refine joinH H fun G4 hG4 H => ?_
  refine HT_toK (fun l' s' => ∃ (x33 : Int) (x34 : List (Int)), G4 (x33, x34) = some r ∧ l' = [.slice A0p p0.length c0p, .int .i64 x33, undef, undef, .int .i64 0, getL l' 5, getL l' 6, getL l' 7, getL l' 8, getL l' 9, getL l' 10, getL l' 11, getL l' 12, getL l' 13, getL l' 14, getL l' 15, getL l' 16, getL l' 17, undef] ∧ Hp sb s F0 s' [Ck.ol OI 3 A0p c0p x34] ∧ x34.length = p0.length) ?_ ?_
  · intro K4 hK4
    refine HT_block ?_
    refine HT_loopK (fun kf l' s' => ∃ (x42 : List (Int)) (x43 : Int) (x44 : Int), (laws_markIntS.l1 p0 kf x42 x43 x44).bind G4 = some r ∧ l' = [.slice A0p p0.length c0p, .int .i64 x43, undef, undef, .int .i64 0, .int .i64 x44, getL l' 6, getL l' 7, getL l' 8, getL l' 9, getL l' 10, getL l' 11, getL l' 12, getL l' 13, getL l' 14, getL l' 15, getL l' 16, getL l' 17, undef] ∧ Hp sb s F0 s' [Ck.ol OI 3 A0p c0p x42] ∧ x42.length = p0.length) ((((p0.length : Int)) - (0)).toNat + 2) ⟨p0, p1, 0, H, rfl, hH, rfl⟩ ?_
    rintro kf l' s55 ⟨x42, x43, x44, H, hl, hH, hl42⟩ K55 hK55
    generalize getL l' 6 = j6, getL l' 7 = j7, getL l' 8 = j8, getL l' 9 = j9, getL l' 10 = j10, getL l' 11 = j11, getL l' 12 = j12, getL l' 13 = j13, getL l' 14 = j14, getL l' 15 = j15, getL l' 16 = j16, getL l' 17 = j17 at hl
    subst hl
    cases kf with
    | zero => simp [laws_markIntS.l1] at H
    | succ kf =>
      rw [laws_markIntS.l1] at H
      refine HT_seq_k ?_
      intro K56 hK56
      refine HT_seq_k ?_
      intro K57 hK57
      refine HT_region ?_
      refine HL_cons rfl ?_
      refine o_move ?_
      try dsimp only [putL, setL, evL, getL]
      refine HL_cons rfl ?_
      refine o_move ?_
      try dsimp only [putL, setL, evL, getL]
      refine HL_cons rfl ?_
      refine o_len rfl Try.underlying22 ?_
      try dsimp only [putL, setL, evL, getL]
      refine HL_cons rfl ?_
      refine o_bin rfl rfl rfl ?_
      try dsimp only [putL, setL, evL, getL]
      refine HL_nil ?_
      refine hK57 _ _ ?_
      rcases Bool.eq_false_or_eq_true (decide (x44 < (p0.length : Int))) with hb58 | hb58
      · replace H := iteT hb58 H
        refine HT_true (congrArg Value.bool hb58) ?_
        refine HT_skip ?_
        refine hK56 _ _ ?_
        refine HT_seq_k ?_
        intro K59 hK59
        refine HT_block ?_
        refine HT_seq_k ?_
        intro K60 hK60
        refine HT_region ?_
        refine HL_cons rfl ?_
        refine o_move ?_
        try dsimp only [putL, setL, evL, getL]
        refine HL_cons rfl ?_
        refine o_move ?_
        try dsimp only [putL, setL, evL, getL]
        refine HL_cons rfl ?_
        refine o_move ?_
        try dsimp only [putL, setL, evL, getL]
        obtain ⟨u61, hu61, H⟩ := headE H
        obtain ⟨b61, o61, cs61, hA61, hr61, hh61, hel61⟩ := hH.elo 0 rfl hu61
        obtain rfl := hr61
        refine HL_cons rfl ?_
        refine hel61 s55 (sliceLen hl42) rfl Try.underlying22 tI3 ?_
        try dsimp only [putL, setL, evL, getL]
        obtain ⟨x62, hx62, H⟩ := headE H
        refine HL_cons rfl ?_
        refine o_setF (vs := [.int .i64 x43]) (u := x43) hH 0 rfl rfl rfl rfl rfl tI3 hA61 hx62 (Ent.own (Ent.flat rfl)) ?_
        intro s62 hH'
        have hl62 := (st?_len hx62).trans hl42
        replace hH : Hp sb s F0 s62 [Ck.ol OI 3 A0p c0p x62] := hH'
        clear hH'
        try dsimp only [putL, setL, evL, getL]
        refine HL_nil ?_
        refine hK60 _ _ ?_
        refine HT_region ?_
        refine HL_cons rfl ?_
        refine o_move ?_
        try dsimp only [putL, setL, evL, getL]
        refine HL_cons rfl ?_
        refine o_bin rfl rfl rfl ?_
        try dsimp only [putL, setL, evL, getL]
        refine HL_cons rfl ?_
        refine o_assign ?_
        try dsimp only [putL, setL, evL, getL]
        refine HL_nil ?_
        refine hK59 _ _ ?_
        refine HT_region ?_
        refine HL_cons rfl ?_
        refine o_move ?_
        try dsimp only [putL, setL, evL, getL]
        refine HL_cons rfl ?_
        refine o_bin rfl rfl rfl ?_
        try dsimp only [putL, setL, evL, getL]
        refine HL_cons rfl ?_
        refine o_assign ?_
        try dsimp only [putL, setL, evL, getL]
        refine HL_nil ?_
        exact hK55 _ _ ⟨kf, Nat.lt_succ_self kf, x62, IntKind.i64.wrap (x43 + 1), IntKind.i64.wrap (x44 + 1), H, rfl, hH, hl62⟩
      · replace H := iteF hb58 H
        refine HT_false (congrArg Value.bool hb58) ?_
        refine HT_exit ?_
        exact hK4 _ _ ⟨x43, x42, H, rfl, hH, hl42⟩
  · rintro l' s63 ⟨x33, x34, H, hl, hH, hl34⟩
    generalize getL l' 5 = j5, getL l' 6 = j6, getL l' 7 = j7, getL l' 8 = j8, getL l' 9 = j9, getL l' 10 = j10, getL l' 11 = j11, getL l' 12 = j12, getL l' 13 = j13, getL l' 14 = j14, getL l' 15 = j15, getL l' 16 = j16, getL l' 17 = j17 at hl
    subst hl
    replace H := hG4 _ H
    try dsimp only at H
    refine hK2 _ _ ?_
    refine HT_seq_k ?_
    intro K64 hK64
    refine HT_region ?_
    refine HL_cons rfl ?_
    refine o_move ?_
    try dsimp only [putL, setL, evL, getL]
    refine HL_cons rfl ?_
    refine o_assign ?_
    try dsimp only [putL, setL, evL, getL]
    refine HL_nil ?_
    refine hK64 _ _ ?_
    refine HT_ret ?_
    obtain rfl := Option.some.inj (show some _ = some r from H)
    exact hQr _ _ [.int .i64 x33] ⟨rfl, trivial⟩ ⟨rfl, hH, hl34⟩
def laws_markEditS.l1 (p0 : List ((Int) × (List (Int)))) : Nat → (List ((Int) × (List (Int)))) → Int → Int → Option (Int × (List ((Int) × (List (Int)))))
  | 0, _, _, _ => none
  | kf + 1, x78, x79, x80 => if (decide (x80 < (p0.length : Int))) = true then ((rd? x78 x80).bind fun u106 => (st? x78 x80 (x79, u106.2)).bind fun x108 => (rd? x108 x80).bind fun u110 => (laws_markIntS.f u110.2 (IntKind.i64.wrap (x79 + 1))).bind fun u114 => (st? x108 x80 (u110.1, u114.2)).bind fun x116 => laws_markEditS.l1 p0 kf x116 u114.1 (IntKind.i64.wrap (x80 + 1))) else (some (x79, x78))
def laws_markEditS.f (p0 : List ((Int) × (List (Int)))) (p1 : Int) : Option (Int × (List ((Int) × (List (Int))))) := (laws_markEditS.l1 p0 ((((p0.length : Int)) - (0)).toNat + 2) p0 p1 0).bind fun (o : Int × (List ((Int) × (List (Int))))) => match o with | (x60, x61) => (some (x60, x61))
def laws_markEditS.post (sb s : St) (F0 : Fp) (A0p : Option Addr) (c0p : Nat) (p0 : List ((Int) × (List (Int)))) (r : Int × (List ((Int) × (List (Int))))) : Value → St → Prop := fun v s' => v = .int .i64 r.1 ∧ Hp sb s F0 s' [Ck.ol OS99 99 A0p c0p r.2] ∧ r.2.length = p0.length
set_option maxRecDepth 100000 in
set_option maxHeartbeats 4000000 in
theorem laws_markEditS.ok (sb s : St) (F0 : Fp) (A0p : Option Addr) (c0p : Nat) (p0 : List ((Int) × (List (Int)))) (p1 : Int) (hH : Hp sb s F0 s [Ck.ol OS99 99 A0p c0p p0]) (r : Int × (List ((Int) × (List (Int))))) (H : laws_markEditS.f p0 p1 = some r) : GCall Try.prog 33 #[.slice A0p p0.length c0p, .int .i64 p1] s (laws_markEditS.post sb s F0 A0p c0p p0 r) := by
  refine GCall_ofk [.tmp 4] [.slice A0p p0.length c0p, .int .i64 p1, undef, undef, undef, undef, undef, undef, undef, undef, undef, undef, undef, undef, undef, undef, undef, undef, undef, undef, undef, undef, undef, undef, undef, undef, undef] Try.func33 rfl rfl rfl ?_
  intro w Q hQr hQn hQp
  replace H := topE H
  unfold laws_markEditS.f at H
  refine HT_seq_k ?_
  intro K1 hK1
  refine HT_region ?_
  refine HL_cons rfl ?_
  refine o_assign ?_
  try dsimp only [putL, setL, evL, getL]
  refine HL_nil ?_
  refine hK1 _ _ ?_
  refine HT_seq_k ?_
  intro K2 hK2
  refine HT_seq_k ?_
  intro K3 hK3
  refine HT_region ?_
  refine HL_cons rfl ?_
  refine o_assign ?_
  try dsimp only [putL, setL, evL, getL]
  refine HL_nil ?_
  refine hK3 _ _ ?_
  refine joinH H fun G4 hG4 H => ?_
  refine HT_toK (fun l' s' => ∃ (x60 : Int) (x61 : List ((Int) × (List (Int)))), G4 (x60, x61) = some r ∧ l' = [.slice A0p p0.length c0p, .int .i64 x60, undef, undef, .int .i64 0, getL l' 5, getL l' 6, getL l' 7, getL l' 8, getL l' 9, getL l' 10, getL l' 11, getL l' 12, getL l' 13, getL l' 14, getL l' 15, getL l' 16, getL l' 17, getL l' 18, getL l' 19, getL l' 20, getL l' 21, getL l' 22, getL l' 23, getL l' 24, getL l' 25, undef] ∧ Hp sb s F0 s' [Ck.ol OS99 99 A0p c0p x61] ∧ x61.length = p0.length) ?_ ?_
  · intro K4 hK4
    refine HT_block ?_
    refine HT_loopK (fun kf l' s' => ∃ (x78 : List ((Int) × (List (Int)))) (x79 : Int) (x80 : Int), (laws_markEditS.l1 p0 kf x78 x79 x80).bind G4 = some r ∧ l' = [.slice A0p p0.length c0p, .int .i64 x79, undef, undef, .int .i64 0, .int .i64 x80, getL l' 6, getL l' 7, getL l' 8, getL l' 9, getL l' 10, getL l' 11, getL l' 12, getL l' 13, getL l' 14, getL l' 15, getL l' 16, getL l' 17, getL l' 18, getL l' 19, getL l' 20, getL l' 21, getL l' 22, getL l' 23, getL l' 24, getL l' 25, undef] ∧ Hp sb s F0 s' [Ck.ol OS99 99 A0p c0p x78] ∧ x78.length = p0.length) ((((p0.length : Int)) - (0)).toNat + 2) ⟨p0, p1, 0, H, rfl, hH, rfl⟩ ?_
    rintro kf l' s100 ⟨x78, x79, x80, H, hl, hH, hl78⟩ K100 hK100
    generalize getL l' 6 = j6, getL l' 7 = j7, getL l' 8 = j8, getL l' 9 = j9, getL l' 10 = j10, getL l' 11 = j11, getL l' 12 = j12, getL l' 13 = j13, getL l' 14 = j14, getL l' 15 = j15, getL l' 16 = j16, getL l' 17 = j17, getL l' 18 = j18, getL l' 19 = j19, getL l' 20 = j20, getL l' 21 = j21, getL l' 22 = j22, getL l' 23 = j23, getL l' 24 = j24, getL l' 25 = j25 at hl
    subst hl
    cases kf with
    | zero => simp [laws_markEditS.l1] at H
    | succ kf =>
      rw [laws_markEditS.l1] at H
      refine HT_seq_k ?_
      intro K101 hK101
      refine HT_seq_k ?_
      intro K102 hK102
      refine HT_region ?_
      refine HL_cons rfl ?_
      refine o_move ?_
      try dsimp only [putL, setL, evL, getL]
      refine HL_cons rfl ?_
      refine o_move ?_
      try dsimp only [putL, setL, evL, getL]
      refine HL_cons rfl ?_
      refine o_len rfl Try.underlying40 ?_
      try dsimp only [putL, setL, evL, getL]
      refine HL_cons rfl ?_
      refine o_bin rfl rfl rfl ?_
      try dsimp only [putL, setL, evL, getL]
      refine HL_nil ?_
      refine hK102 _ _ ?_
      rcases Bool.eq_false_or_eq_true (decide (x80 < (p0.length : Int))) with hb103 | hb103
      · replace H := iteT hb103 H
        refine HT_true (congrArg Value.bool hb103) ?_
        refine HT_skip ?_
        refine hK101 _ _ ?_
        refine HT_seq_k ?_
        intro K104 hK104
        refine HT_block ?_
        refine HT_seq_k ?_
        intro K105 hK105
        refine HT_region ?_
        refine HL_cons rfl ?_
        refine o_move ?_
        try dsimp only [putL, setL, evL, getL]
        refine HL_cons rfl ?_
        refine o_move ?_
        try dsimp only [putL, setL, evL, getL]
        refine HL_cons rfl ?_
        refine o_move ?_
        try dsimp only [putL, setL, evL, getL]
        obtain ⟨u106, hu106, H⟩ := headE H
        obtain ⟨b106, o106, cs106, hA106, hr106, hh106, hel106⟩ := hH.elo 0 rfl hu106
        obtain ⟨_, _, rfl, rfl, ⟨A107, c107, rfl, D107⟩⟩ := hr106
        refine HL_cons rfl ?_
        refine hel106 s100 (sliceLen hl78) rfl Try.underlying40 tI99 ?_
        try dsimp only [putL, setL, evL, getL]
        refine HL_cons rfl ?_
        refine o_faddr' (ft := 3) (off := 0) rfl Try.underlying99 rfl tI3 (by decide) ?_
        try dsimp only [putL, setL, evL, getL]
        obtain ⟨x108, hx108, H⟩ := headE H
        refine HL_cons rfl ?_
        refine o_setf (u := u106) (u' := (x79, u106.2)) (off := 0) hH 0 rfl rfl rfl rfl tI3 hA106 hu106 (Fup.left Fup.int) hx108 ?_
        intro s108 hH'
        have hl108 := (st?_len hx108).trans hl78
        replace hH : Hp sb s F0 s108 [Ck.ol OS99 99 A0p c0p x108] := hH'
        clear hH'
        try dsimp only [putL, setL, evL, getL]
        refine HL_nil ?_
        refine hK105 _ _ ?_
        refine HT_seq_k ?_
        intro K109 hK109
        refine HT_region ?_
        refine HL_cons rfl ?_
        refine o_move ?_
        try dsimp only [putL, setL, evL, getL]
        refine HL_cons rfl ?_
        refine o_bin rfl rfl rfl ?_
        try dsimp only [putL, setL, evL, getL]
        refine HL_cons rfl ?_
        refine o_assign ?_
        try dsimp only [putL, setL, evL, getL]
        refine HL_nil ?_
        refine hK109 _ _ ?_
        refine HT_region ?_
        refine HL_cons rfl ?_
        refine o_move ?_
        try dsimp only [putL, setL, evL, getL]
        refine HL_cons rfl ?_
        refine o_move ?_
        try dsimp only [putL, setL, evL, getL]
        obtain ⟨u110, hu110, H⟩ := headE H
        obtain ⟨b110, o110, vs110, hA110, -, hH⟩ := hH.open 0 rfl rfl hu110
        dsimp only [addC, setC, rmC, selC, getC] at hH
        obtain ⟨v111, v112, rfl, hH⟩ := hH.el_pair 1 rfl rfl
        dsimp only [addC, setC, rmC, selC, getC] at hH
        obtain rfl := hH.el_rep 1 rfl
        replace hH := hH.drop 1 rfl
        dsimp only [addC, setC, rmC, selC, getC] at hH
        obtain ⟨A113, c113, rfl, hH⟩ := hH.el_sl 2 rfl rfl
        dsimp only [addC, setC, rmC, selC, getC] at hH
        replace hH : Hp sb s F0 s108 [Ck.oh OS99 99 A0p c0p x108 (Int.toNat x80) [.int .i64 u110.1, .slice A113 u110.2.length c113], Ck.emp, Ck.ol OI 3 A113 c113 u110.2] := hH
        refine HL_cons rfl ?_
        refine iaddr_of (K := KS99) hA110 hu110 s108 (sliceLen hl108) rfl Try.underlying40 tI99 ?_
        try dsimp only [putL, setL, evL, getL]
        refine HL_cons rfl ?_
        refine o_faddr' (ft := 22) (off := 1) rfl Try.underlying99 rfl tI22 (by decide) ?_
        try dsimp only [putL, setL, evL, getL]
        refine HL_cons rfl ?_
        refine o_load' rfl Try.underlying22 rfl (hH.hasoh 0 rfl hA110 1 _ rfl) ?_
        try dsimp only [putL, setL, evL, getL]
        refine HL_cons rfl ?_
        refine o_move ?_
        try dsimp only [putL, setL, evL, getL]
        obtain ⟨u114, hu114, H⟩ := headE H
        obtain ⟨F1, hA, hB⟩ := hH.take [2] (by decide)
        dsimp only [addC, setC, rmC, selC, getC] at hA
        refine HL_cons rfl ?_
        refine o_call (args := #[.slice A113 u110.2.length c113, .int .i64 (IntKind.i64.wrap (x79 + 1))]) Try.func19 rfl rfl rfl (laws_markIntS.ok sb s108 F1 A113 c113 u110.2 (IntKind.i64.wrap (x79 + 1)) hA _ hu114) ?_
        rintro _ s114 ⟨rfl, hD, hl115⟩
        replace hH := hB _ _ _ (Up.refl _ _ _) hD
        clear hD hA hB
        dsimp only [addC, setC, rmC, selC, getC] at hH
        try dsimp only [putL, setL, evL, getL]
        refine HL_cons rfl ?_
        refine o_assign ?_
        try dsimp only [putL, setL, evL, getL]
        refine HL_nil ?_
        refine hK104 _ _ ?_
        refine HT_region ?_
        refine HL_cons rfl ?_
        refine o_move ?_
        try dsimp only [putL, setL, evL, getL]
        refine HL_cons rfl ?_
        refine o_bin rfl rfl rfl ?_
        try dsimp only [putL, setL, evL, getL]
        refine HL_cons rfl ?_
        refine o_assign ?_
        try dsimp only [putL, setL, evL, getL]
        refine HL_nil ?_
        replace hH := hH.conv [3] (by decide) (d := Ck.el OS99 [.int .i64 u110.1, .slice A113 u110.2.length c113] (u110.1, u114.2)) (Ent.pair (v1 := [.int .i64 u110.1]) (v2 := [.slice A113 u110.2.length c113]) (x1 := u110.1) (x2 := u114.2) (Ent.flat rfl) (Ent.slL hl115))
        dsimp only [addC, setC, rmC, selC, getC] at hH
        obtain ⟨x116, hx116, H⟩ := headE H
        replace hH := hH.close (i := x80) 0 4 (by decide) rfl rfl rfl hx116
        dsimp only [addC, setC, rmC, selC, getC] at hH
        have hl116 := (st?_len hx116).trans hl108
        replace hH : Hp sb s F0 s114 [Ck.ol OS99 99 A0p c0p x116, Ck.emp, Ck.emp, Ck.emp, Ck.emp] := hH
        exact hK100 _ _ ⟨kf, Nat.lt_succ_self kf, x116, u114.1, IntKind.i64.wrap (x80 + 1), H, rfl, hH.sel [0] (by decide), hl116⟩
      · replace H := iteF hb103 H
        refine HT_false (congrArg Value.bool hb103) ?_
        refine HT_exit ?_
        exact hK4 _ _ ⟨x79, x78, H, rfl, hH, hl78⟩
  · rintro l' s117 ⟨x60, x61, H, hl, hH, hl61⟩
    generalize getL l' 5 = j5, getL l' 6 = j6, getL l' 7 = j7, getL l' 8 = j8, getL l' 9 = j9, getL l' 10 = j10, getL l' 11 = j11, getL l' 12 = j12, getL l' 13 = j13, getL l' 14 = j14, getL l' 15 = j15, getL l' 16 = j16, getL l' 17 = j17, getL l' 18 = j18, getL l' 19 = j19, getL l' 20 = j20, getL l' 21 = j21, getL l' 22 = j22, getL l' 23 = j23, getL l' 24 = j24, getL l' 25 = j25 at hl
    subst hl
    replace H := hG4 _ H
    try dsimp only at H
    refine hK2 _ _ ?_
    refine HT_seq_k ?_
    intro K118 hK118
    refine HT_region ?_
    refine HL_cons rfl ?_
    refine o_move ?_
    try dsimp only [putL, setL, evL, getL]
    refine HL_cons rfl ?_
    refine o_assign ?_
    try dsimp only [putL, setL, evL, getL]
    refine HL_nil ?_
    refine hK118 _ _ ?_
    refine HT_ret ?_
    obtain rfl := Option.some.inj (show some _ = some r from H)
    exact hQr _ _ [.int .i64 x60] ⟨rfl, trivial⟩ ⟨rfl, hH, hl61⟩
def laws_heldIntS.l1 (p0 : List (Int)) : Nat → Int → Int → Option (Lo Int Int)
  | 0, _, _ => none
  | kf + 1, x47, x48 => if (decide (x48 < (p0.length : Int))) = true then ((rd? p0 x48).bind fun u67 => if (u67 != x47) = true then ((some (-1)).bind fun z => some (Lo.ret z)) else (laws_heldIntS.l1 p0 kf (IntKind.i64.wrap (x47 + 1)) (IntKind.i64.wrap (x48 + 1)))) else (some (Lo.go x47))
def laws_heldIntS.f (p0 : List (Int)) (p1 : Int) : Option Int := (laws_heldIntS.l1 p0 ((((p0.length : Int)) - (0)).toNat + 2) p1 0).bind fun (o : Lo Int Int) => match o with | .go x37 => (some x37) | .ret z => some z
def laws_heldIntS.post (sb s : St) (F0 : Fp) (r : Int) : Value → St → Prop := fun v s' => v = .int .i64 r ∧ Hp sb s F0 s' []
set_option maxRecDepth 100000 in
set_option maxHeartbeats 4000000 in
theorem laws_heldIntS.ok (sb s : St) (F0 : Fp) (A0p : Option Addr) (c0p : Nat) (p0 : List (Int)) (p1 : Int) (HRp0 : Rd KI sb A0p c0p p0) (hH : Hp sb s F0 s []) (r : Int) (H : laws_heldIntS.f p0 p1 = some r) : GCall Try.prog 20 #[.slice A0p p0.length c0p, .int .i64 p1] s (laws_heldIntS.post sb s F0 r) := by
  refine GCall_ofk [.tmp 4] [.slice A0p p0.length c0p, .int .i64 p1, undef, undef, undef, undef, undef, undef, undef, undef, undef, undef, undef, undef, undef, undef, undef, undef, undef, undef, undef] Try.func20 rfl rfl rfl ?_
  intro w Q hQr hQn hQp
  replace H := topE H
  unfold laws_heldIntS.f at H
  refine HT_seq_k ?_
  intro K1 hK1
  refine HT_region ?_
  refine HL_cons rfl ?_
  refine o_assign ?_
  try dsimp only [putL, setL, evL, getL]
  refine HL_nil ?_
  refine hK1 _ _ ?_
  refine HT_seq_k ?_
  intro K2 hK2
  refine HT_seq_k ?_
  intro K3 hK3
  refine HT_region ?_
  refine HL_cons rfl ?_
  refine o_assign ?_
  try dsimp only [putL, setL, evL, getL]
  refine HL_nil ?_
  refine hK3 _ _ ?_
  refine joinH H fun G4 hG4 H => ?_
  refine HT_toK (fun l' s' => ∃ (x37 : Int), G4 (.go x37) = some r ∧ l' = [.slice A0p p0.length c0p, .int .i64 x37, undef, undef, getL l' 4, getL l' 5, getL l' 6, getL l' 7, getL l' 8, getL l' 9, getL l' 10, getL l' 11, getL l' 12, getL l' 13, getL l' 14, getL l' 15, getL l' 16, getL l' 17, getL l' 18, getL l' 19, undef] ∧ Hp sb s F0 s' []) ?_ ?_
  · intro K4 hK4
    refine HT_block ?_
    refine HT_loopK (fun kf l' s' => ∃ (x47 : Int) (x48 : Int), (laws_heldIntS.l1 p0 kf x47 x48).bind G4 = some r ∧ l' = [.slice A0p p0.length c0p, .int .i64 x47, undef, undef, getL l' 4, .int .i64 x48, getL l' 6, getL l' 7, getL l' 8, getL l' 9, getL l' 10, getL l' 11, getL l' 12, getL l' 13, getL l' 14, getL l' 15, getL l' 16, getL l' 17, getL l' 18, getL l' 19, undef] ∧ Hp sb s F0 s' []) ((((p0.length : Int)) - (0)).toNat + 2) ⟨p1, 0, H, rfl, hH⟩ ?_
    rintro kf l' s60 ⟨x47, x48, H, hl, hH⟩ K60 hK60
    generalize getL l' 4 = j4, getL l' 6 = j6, getL l' 7 = j7, getL l' 8 = j8, getL l' 9 = j9, getL l' 10 = j10, getL l' 11 = j11, getL l' 12 = j12, getL l' 13 = j13, getL l' 14 = j14, getL l' 15 = j15, getL l' 16 = j16, getL l' 17 = j17, getL l' 18 = j18, getL l' 19 = j19 at hl
    subst hl
    cases kf with
    | zero => simp [laws_heldIntS.l1] at H
    | succ kf =>
      rw [laws_heldIntS.l1] at H
      refine HT_seq_k ?_
      intro K61 hK61
      refine HT_seq_k ?_
      intro K62 hK62
      refine HT_region ?_
      refine HL_cons rfl ?_
      refine o_move ?_
      try dsimp only [putL, setL, evL, getL]
      refine HL_cons rfl ?_
      refine o_move ?_
      try dsimp only [putL, setL, evL, getL]
      refine HL_cons rfl ?_
      refine o_len rfl Try.underlying22 ?_
      try dsimp only [putL, setL, evL, getL]
      refine HL_cons rfl ?_
      refine o_bin rfl rfl rfl ?_
      try dsimp only [putL, setL, evL, getL]
      refine HL_nil ?_
      refine hK62 _ _ ?_
      rcases Bool.eq_false_or_eq_true (decide (x48 < (p0.length : Int))) with hb63 | hb63
      · replace H := iteT hb63 H
        refine HT_true (congrArg Value.bool hb63) ?_
        refine HT_skip ?_
        refine hK61 _ _ ?_
        refine HT_seq_k ?_
        intro K64 hK64
        refine HT_block ?_
        refine HT_seq_k ?_
        intro K65 hK65
        refine HT_seq_k ?_
        intro K66 hK66
        refine HT_region ?_
        refine HL_cons rfl ?_
        refine o_move ?_
        try dsimp only [putL, setL, evL, getL]
        refine HL_cons rfl ?_
        refine o_move ?_
        try dsimp only [putL, setL, evL, getL]
        obtain ⟨u67, hu67, H⟩ := headE H
        obtain ⟨b67, o67, cs67, hr67, hh67, hel67⟩ := Rd.elb HRp0 hu67
        obtain rfl := hr67
        refine HL_cons rfl ?_
        refine hel67 s60 rfl rfl Try.underlying22 tI3 ?_
        try dsimp only [putL, setL, evL, getL]
        refine HL_cons rfl ?_
        refine o_load' rfl Try.underlying3 rfl ((hh67 hH.bs.mono) 0 _ rfl) ?_
        try dsimp only [putL, setL, evL, getL]
        refine HL_cons rfl ?_
        refine o_move ?_
        try dsimp only [putL, setL, evL, getL]
        refine HL_cons rfl ?_
        refine o_bin rfl rfl rfl ?_
        try dsimp only [putL, setL, evL, getL]
        refine HL_nil ?_
        refine hK66 _ _ ?_
        rcases Bool.eq_false_or_eq_true (u67 != x47) with hb68 | hb68
        · replace H := iteT hb68 H
          refine HT_true (congrArg Value.bool hb68) ?_
          refine HT_seq_k ?_
          intro K69 hK69
          refine HT_region ?_
          refine HL_cons rfl ?_
          refine o_assign ?_
          try dsimp only [putL, setL, evL, getL]
          refine HL_nil ?_
          refine hK69 _ _ ?_
          refine HT_ret ?_
          replace H := escH (fun z hz => hG4 _ hz) H
          obtain rfl := Option.some.inj (show some _ = some r from H)
          exact hQr _ _ [.int .i64 (-1)] ⟨rfl, trivial⟩ ⟨rfl, hH⟩
        · replace H := iteF hb68 H
          refine HT_false (congrArg Value.bool hb68) ?_
          refine HT_skip ?_
          refine hK65 _ _ ?_
          refine HT_region ?_
          refine HL_cons rfl ?_
          refine o_move ?_
          try dsimp only [putL, setL, evL, getL]
          refine HL_cons rfl ?_
          refine o_bin rfl rfl rfl ?_
          try dsimp only [putL, setL, evL, getL]
          refine HL_cons rfl ?_
          refine o_assign ?_
          try dsimp only [putL, setL, evL, getL]
          refine HL_nil ?_
          refine hK64 _ _ ?_
          refine HT_region ?_
          refine HL_cons rfl ?_
          refine o_move ?_
          try dsimp only [putL, setL, evL, getL]
          refine HL_cons rfl ?_
          refine o_bin rfl rfl rfl ?_
          try dsimp only [putL, setL, evL, getL]
          refine HL_cons rfl ?_
          refine o_assign ?_
          try dsimp only [putL, setL, evL, getL]
          refine HL_nil ?_
          exact hK60 _ _ ⟨kf, Nat.lt_succ_self kf, IntKind.i64.wrap (x47 + 1), IntKind.i64.wrap (x48 + 1), H, rfl, hH⟩
      · replace H := iteF hb63 H
        refine HT_false (congrArg Value.bool hb63) ?_
        refine HT_exit ?_
        exact hK4 _ _ ⟨x47, H, rfl, hH⟩
  · rintro l' s70 ⟨x37, H, hl, hH⟩
    generalize getL l' 4 = j4, getL l' 5 = j5, getL l' 6 = j6, getL l' 7 = j7, getL l' 8 = j8, getL l' 9 = j9, getL l' 10 = j10, getL l' 11 = j11, getL l' 12 = j12, getL l' 13 = j13, getL l' 14 = j14, getL l' 15 = j15, getL l' 16 = j16, getL l' 17 = j17, getL l' 18 = j18, getL l' 19 = j19 at hl
    subst hl
    replace H := hG4 _ H
    try dsimp only at H
    refine hK2 _ _ ?_
    refine HT_seq_k ?_
    intro K71 hK71
    refine HT_region ?_
    refine HL_cons rfl ?_
    refine o_move ?_
    try dsimp only [putL, setL, evL, getL]
    refine HL_cons rfl ?_
    refine o_assign ?_
    try dsimp only [putL, setL, evL, getL]
    refine HL_nil ?_
    refine hK71 _ _ ?_
    refine HT_ret ?_
    obtain rfl := Option.some.inj (show some _ = some r from H)
    exact hQr _ _ [.int .i64 x37] ⟨rfl, trivial⟩ ⟨rfl, hH⟩
def laws_heldEditS.l1 (p0 : List ((Int) × (List (Int)))) : Nat → Int → Int → Option (Lo Int Int)
  | 0, _, _ => none
  | kf + 1, x83, x84 => if (decide (x84 < (p0.length : Int))) = true then ((rd? p0 x84).bind fun u112 => if (u112.1 != x83) = true then ((some (-1)).bind fun z => some (Lo.ret z)) else ((rd? p0 x84).bind fun u118 => (laws_heldIntS.f u118.2 (IntKind.i64.wrap (x83 + 1))).bind fun u120 => if (decide (u120 < 0)) = true then ((some (-1)).bind fun z => some (Lo.ret z)) else (laws_heldEditS.l1 p0 kf u120 (IntKind.i64.wrap (x84 + 1))))) else (some (Lo.go x83))
def laws_heldEditS.f (p0 : List ((Int) × (List (Int)))) (p1 : Int) : Option Int := (laws_heldEditS.l1 p0 ((((p0.length : Int)) - (0)).toNat + 2) p1 0).bind fun (o : Lo Int Int) => match o with | .go x64 => (some x64) | .ret z => some z
def laws_heldEditS.post (sb s : St) (F0 : Fp) (r : Int) : Value → St → Prop := fun v s' => v = .int .i64 r ∧ Hp sb s F0 s' []
set_option maxRecDepth 100000 in
set_option maxHeartbeats 4000000 in
theorem laws_heldEditS.ok (sb s : St) (F0 : Fp) (A0p : Option Addr) (c0p : Nat) (p0 : List ((Int) × (List (Int)))) (p1 : Int) (HRp0 : Rd KS99 sb A0p c0p p0) (hH : Hp sb s F0 s []) (r : Int) (H : laws_heldEditS.f p0 p1 = some r) : GCall Try.prog 34 #[.slice A0p p0.length c0p, .int .i64 p1] s (laws_heldEditS.post sb s F0 r) := by
  refine GCall_ofk [.tmp 4] [.slice A0p p0.length c0p, .int .i64 p1, undef, undef, undef, undef, undef, undef, undef, undef, undef, undef, undef, undef, undef, undef, undef, undef, undef, undef, undef, undef, undef, undef, undef, undef, undef, undef, undef, undef, undef] Try.func34 rfl rfl rfl ?_
  intro w Q hQr hQn hQp
  replace H := topE H
  unfold laws_heldEditS.f at H
  refine HT_seq_k ?_
  intro K1 hK1
  refine HT_region ?_
  refine HL_cons rfl ?_
  refine o_assign ?_
  try dsimp only [putL, setL, evL, getL]
  refine HL_nil ?_
  refine hK1 _ _ ?_
  refine HT_seq_k ?_
  intro K2 hK2
  refine HT_seq_k ?_
  intro K3 hK3
  refine HT_region ?_
  refine HL_cons rfl ?_
  refine o_assign ?_
  try dsimp only [putL, setL, evL, getL]
  refine HL_nil ?_
  refine hK3 _ _ ?_
  refine joinH H fun G4 hG4 H => ?_
  refine HT_toK (fun l' s' => ∃ (x64 : Int), G4 (.go x64) = some r ∧ l' = [.slice A0p p0.length c0p, .int .i64 x64, undef, undef, getL l' 4, getL l' 5, getL l' 6, getL l' 7, getL l' 8, getL l' 9, getL l' 10, getL l' 11, getL l' 12, getL l' 13, getL l' 14, getL l' 15, getL l' 16, getL l' 17, getL l' 18, getL l' 19, getL l' 20, getL l' 21, getL l' 22, getL l' 23, getL l' 24, getL l' 25, getL l' 26, getL l' 27, getL l' 28, getL l' 29, undef] ∧ Hp sb s F0 s' []) ?_ ?_
  · intro K4 hK4
    refine HT_block ?_
    refine HT_loopK (fun kf l' s' => ∃ (x83 : Int) (x84 : Int), (laws_heldEditS.l1 p0 kf x83 x84).bind G4 = some r ∧ l' = [.slice A0p p0.length c0p, .int .i64 x83, undef, undef, getL l' 4, .int .i64 x84, getL l' 6, getL l' 7, getL l' 8, getL l' 9, getL l' 10, getL l' 11, getL l' 12, getL l' 13, getL l' 14, getL l' 15, getL l' 16, getL l' 17, getL l' 18, getL l' 19, getL l' 20, getL l' 21, getL l' 22, getL l' 23, getL l' 24, getL l' 25, getL l' 26, getL l' 27, getL l' 28, getL l' 29, undef] ∧ Hp sb s F0 s' []) ((((p0.length : Int)) - (0)).toNat + 2) ⟨p1, 0, H, rfl, hH⟩ ?_
    rintro kf l' s105 ⟨x83, x84, H, hl, hH⟩ K105 hK105
    generalize getL l' 4 = j4, getL l' 6 = j6, getL l' 7 = j7, getL l' 8 = j8, getL l' 9 = j9, getL l' 10 = j10, getL l' 11 = j11, getL l' 12 = j12, getL l' 13 = j13, getL l' 14 = j14, getL l' 15 = j15, getL l' 16 = j16, getL l' 17 = j17, getL l' 18 = j18, getL l' 19 = j19, getL l' 20 = j20, getL l' 21 = j21, getL l' 22 = j22, getL l' 23 = j23, getL l' 24 = j24, getL l' 25 = j25, getL l' 26 = j26, getL l' 27 = j27, getL l' 28 = j28, getL l' 29 = j29 at hl
    subst hl
    cases kf with
    | zero => simp [laws_heldEditS.l1] at H
    | succ kf =>
      rw [laws_heldEditS.l1] at H
      refine HT_seq_k ?_
      intro K106 hK106
      refine HT_seq_k ?_
      intro K107 hK107
      refine HT_region ?_
      refine HL_cons rfl ?_
      refine o_move ?_
      try dsimp only [putL, setL, evL, getL]
      refine HL_cons rfl ?_
      refine o_move ?_
      try dsimp only [putL, setL, evL, getL]
      refine HL_cons rfl ?_
      refine o_len rfl Try.underlying40 ?_
      try dsimp only [putL, setL, evL, getL]
      refine HL_cons rfl ?_
      refine o_bin rfl rfl rfl ?_
      try dsimp only [putL, setL, evL, getL]
      refine HL_nil ?_
      refine hK107 _ _ ?_
      rcases Bool.eq_false_or_eq_true (decide (x84 < (p0.length : Int))) with hb108 | hb108
      · replace H := iteT hb108 H
        refine HT_true (congrArg Value.bool hb108) ?_
        refine HT_skip ?_
        refine hK106 _ _ ?_
        refine HT_seq_k ?_
        intro K109 hK109
        refine HT_block ?_
        refine HT_seq_k ?_
        intro K110 hK110
        refine HT_seq_k ?_
        intro K111 hK111
        refine HT_region ?_
        refine HL_cons rfl ?_
        refine o_move ?_
        try dsimp only [putL, setL, evL, getL]
        refine HL_cons rfl ?_
        refine o_move ?_
        try dsimp only [putL, setL, evL, getL]
        obtain ⟨u112, hu112, H⟩ := headE H
        obtain ⟨b112, o112, cs112, hr112, hh112, hel112⟩ := Rd.elb HRp0 hu112
        obtain ⟨_, _, rfl, rfl, ⟨A113, c113, rfl, D113⟩⟩ := hr112
        refine HL_cons rfl ?_
        refine hel112 s105 rfl rfl Try.underlying40 tI99 ?_
        try dsimp only [putL, setL, evL, getL]
        refine HL_cons rfl ?_
        refine o_faddr' (ft := 3) (off := 0) rfl Try.underlying99 rfl tI3 (by decide) ?_
        try dsimp only [putL, setL, evL, getL]
        refine HL_cons rfl ?_
        refine o_load' rfl Try.underlying3 rfl ((hh112 hH.bs.mono) 0 _ rfl) ?_
        try dsimp only [putL, setL, evL, getL]
        refine HL_cons rfl ?_
        refine o_move ?_
        try dsimp only [putL, setL, evL, getL]
        refine HL_cons rfl ?_
        refine o_bin rfl rfl rfl ?_
        try dsimp only [putL, setL, evL, getL]
        refine HL_nil ?_
        refine hK111 _ _ ?_
        rcases Bool.eq_false_or_eq_true (u112.1 != x83) with hb114 | hb114
        · replace H := iteT hb114 H
          refine HT_true (congrArg Value.bool hb114) ?_
          refine HT_seq_k ?_
          intro K115 hK115
          refine HT_region ?_
          refine HL_cons rfl ?_
          refine o_assign ?_
          try dsimp only [putL, setL, evL, getL]
          refine HL_nil ?_
          refine hK115 _ _ ?_
          refine HT_ret ?_
          replace H := escH (fun z hz => hG4 _ hz) H
          obtain rfl := Option.some.inj (show some _ = some r from H)
          exact hQr _ _ [.int .i64 (-1)] ⟨rfl, trivial⟩ ⟨rfl, hH⟩
        · replace H := iteF hb114 H
          refine HT_false (congrArg Value.bool hb114) ?_
          refine HT_skip ?_
          refine hK110 _ _ ?_
          refine HT_seq_k ?_
          intro K116 hK116
          refine HT_region ?_
          refine HL_cons rfl ?_
          refine o_move ?_
          try dsimp only [putL, setL, evL, getL]
          refine HL_cons rfl ?_
          refine o_bin rfl rfl rfl ?_
          try dsimp only [putL, setL, evL, getL]
          refine HL_cons rfl ?_
          refine o_assign ?_
          try dsimp only [putL, setL, evL, getL]
          refine HL_nil ?_
          refine hK116 _ _ ?_
          refine HT_seq_k ?_
          intro K117 hK117
          refine HT_region ?_
          refine HL_cons rfl ?_
          refine o_move ?_
          try dsimp only [putL, setL, evL, getL]
          refine HL_cons rfl ?_
          refine o_move ?_
          try dsimp only [putL, setL, evL, getL]
          obtain ⟨u118, hu118, H⟩ := headE H
          obtain ⟨b118, o118, cs118, hr118, hh118, hel118⟩ := Rd.elb HRp0 hu118
          obtain ⟨_, _, rfl, rfl, ⟨A119, c119, rfl, D119⟩⟩ := hr118
          refine HL_cons rfl ?_
          refine hel118 s105 rfl rfl Try.underlying40 tI99 ?_
          try dsimp only [putL, setL, evL, getL]
          refine HL_cons rfl ?_
          refine o_faddr' (ft := 22) (off := 1) rfl Try.underlying99 rfl tI22 (by decide) ?_
          try dsimp only [putL, setL, evL, getL]
          refine HL_cons rfl ?_
          refine o_load' rfl Try.underlying22 rfl ((hh118 hH.bs.mono) 1 _ rfl) ?_
          try dsimp only [putL, setL, evL, getL]
          refine HL_cons rfl ?_
          refine o_move ?_
          try dsimp only [putL, setL, evL, getL]
          obtain ⟨u120, hu120, H⟩ := headE H
          refine HL_cons rfl ?_
          refine o_call (args := #[.slice A119 u118.2.length c119, .int .i64 (IntKind.i64.wrap (x83 + 1))]) Try.func20 rfl rfl rfl (laws_heldIntS.ok sb s105 no A119 c119 u118.2 (IntKind.i64.wrap (x83 + 1)) D119 (Hp.own hH.bs) _ hu120) ?_
          rintro _ s120 ⟨rfl, hD⟩
          replace hH := hH.back0 hD (Up.refl _ _ _)
          clear hD
          dsimp only [addC, setC, rmC, selC, getC] at hH
          try dsimp only [putL, setL, evL, getL]
          refine HL_cons rfl ?_
          refine o_assign ?_
          try dsimp only [putL, setL, evL, getL]
          refine HL_nil ?_
          refine hK117 _ _ ?_
          refine HT_seq_k ?_
          intro K121 hK121
          refine HT_region ?_
          refine HL_cons rfl ?_
          refine o_move ?_
          try dsimp only [putL, setL, evL, getL]
          refine HL_cons rfl ?_
          refine o_bin rfl rfl rfl ?_
          try dsimp only [putL, setL, evL, getL]
          refine HL_nil ?_
          refine hK121 _ _ ?_
          rcases Bool.eq_false_or_eq_true (decide (u120 < 0)) with hb122 | hb122
          · replace H := iteT hb122 H
            refine HT_true (congrArg Value.bool hb122) ?_
            refine HT_seq_k ?_
            intro K123 hK123
            refine HT_region ?_
            refine HL_cons rfl ?_
            refine o_assign ?_
            try dsimp only [putL, setL, evL, getL]
            refine HL_nil ?_
            refine hK123 _ _ ?_
            refine HT_ret ?_
            replace H := escH (fun z hz => hG4 _ hz) H
            obtain rfl := Option.some.inj (show some _ = some r from H)
            exact hQr _ _ [.int .i64 (-1)] ⟨rfl, trivial⟩ ⟨rfl, hH⟩
          · replace H := iteF hb122 H
            refine HT_false (congrArg Value.bool hb122) ?_
            refine HT_skip ?_
            refine hK109 _ _ ?_
            refine HT_region ?_
            refine HL_cons rfl ?_
            refine o_move ?_
            try dsimp only [putL, setL, evL, getL]
            refine HL_cons rfl ?_
            refine o_bin rfl rfl rfl ?_
            try dsimp only [putL, setL, evL, getL]
            refine HL_cons rfl ?_
            refine o_assign ?_
            try dsimp only [putL, setL, evL, getL]
            refine HL_nil ?_
            exact hK105 _ _ ⟨kf, Nat.lt_succ_self kf, u120, IntKind.i64.wrap (x84 + 1), H, rfl, hH⟩
      · replace H := iteF hb108 H
        refine HT_false (congrArg Value.bool hb108) ?_
        refine HT_exit ?_
        exact hK4 _ _ ⟨x83, H, rfl, hH⟩
  · rintro l' s124 ⟨x64, H, hl, hH⟩
    generalize getL l' 4 = j4, getL l' 5 = j5, getL l' 6 = j6, getL l' 7 = j7, getL l' 8 = j8, getL l' 9 = j9, getL l' 10 = j10, getL l' 11 = j11, getL l' 12 = j12, getL l' 13 = j13, getL l' 14 = j14, getL l' 15 = j15, getL l' 16 = j16, getL l' 17 = j17, getL l' 18 = j18, getL l' 19 = j19, getL l' 20 = j20, getL l' 21 = j21, getL l' 22 = j22, getL l' 23 = j23, getL l' 24 = j24, getL l' 25 = j25, getL l' 26 = j26, getL l' 27 = j27, getL l' 28 = j28, getL l' 29 = j29 at hl
    subst hl
    replace H := hG4 _ H
    try dsimp only at H
    refine hK2 _ _ ?_
    refine HT_seq_k ?_
    intro K125 hK125
    refine HT_region ?_
    refine HL_cons rfl ?_
    refine o_move ?_
    try dsimp only [putL, setL, evL, getL]
    refine HL_cons rfl ?_
    refine o_assign ?_
    try dsimp only [putL, setL, evL, getL]
    refine HL_nil ?_
    refine hK125 _ _ ?_
    refine HT_ret ?_
    obtain rfl := Option.some.inj (show some _ = some r from H)
    exact hQr _ _ [.int .i64 x64] ⟨rfl, trivial⟩ ⟨rfl, hH⟩
def laws_FnExactTurnDiff.f (p0 : List ((Int) × (List (Int)))) : Option Bool := (laws_szEditS.f p0 1048576).bind fun u4 => if (decide (u4 < 0)) = true then (some true) else ((laws_toEditS.f p0).bind fun u10 => (spec_TurnDiff.f u10).bind fun u12 => (laws_toEditS.f p0).bind fun u15 => (impl_TurnDiff.f u15).bind fun u18 => ((laws_eqEditS.f u18.1 u12.1).bind fun u35 => if (!u35) = true then (some true) else (some (u18.2 != u12.2))).bind fun (o : Bool) => match o with | x34 => (if x34 = true then (some false) else ((laws_toEditS.f p0).bind fun u42 => (laws_eqEditS.f u15 u42).bind fun u44 => if (!u44) = true then (some false) else ((laws_markEditS.f u15 1).bind fun u49 => (if (decide (u49.1 < 0)) = true then (some true) else ((laws_eqEditS.f u18.1 u12.1).bind fun u70 => if (!u70) = true then (some true) else (some (u18.2 != u12.2)))).bind fun (o : Bool) => match o with | x68 => (if x68 = true then (some false) else ((laws_markEditS.f u18.1 1).bind fun u77 => (laws_heldEditS.f u77.2 1).bind fun u81 => if (decide (u81 < 0)) = true then (some false) else (if (u81 != u77.1) = true then (some false) else ((laws_toEditS.f p0).bind fun u91 => (impl_TurnDiff.f u91).bind fun u93 => ((laws_eqEditS.f u93.1 u12.1).bind fun u110 => if (!u110) = true then (some true) else (some (u93.2 != u12.2))).bind fun (o : Bool) => match o with | x109 => (if x109 = true then (some false) else ((laws_heldEditS.f u77.2 1).bind fun u117 => if (decide (u117 < 0)) = true then (some false) else (if (u117 != u77.1) = true then (some false) else (some true))))))))))))
def laws_FnExactTurnDiff.post (sb s : St) (F0 : Fp) (r : Bool) : Value → St → Prop := fun v s' => v = .bool r ∧ Hp sb s F0 s' []
set_option maxRecDepth 100000 in
set_option maxHeartbeats 4000000 in
theorem laws_FnExactTurnDiff.ok (sb s : St) (F0 : Fp) (A0p : Option Addr) (c0p : Nat) (p0 : List ((Int) × (List (Int)))) (HRp0 : Rd KS109 sb A0p c0p p0) (hH : Hp sb s F0 s []) (r : Bool) (H : laws_FnExactTurnDiff.f p0 = some r) : GCall Try.prog 5 #[.slice A0p p0.length c0p] s (laws_FnExactTurnDiff.post sb s F0 r) := by
  refine GCall_ofk [.tmp 2] [.slice A0p p0.length c0p, undef, undef, undef, undef, undef, undef, undef, undef, undef, undef, undef, undef, undef, undef, undef, undef, undef, undef, undef, undef, undef, undef, undef, undef, undef, undef, undef, undef, undef, undef, undef, undef, undef, undef, undef, undef, undef, undef, undef, undef, undef, undef, undef, undef, undef, undef, undef, undef, undef, undef, undef, undef, undef, undef, undef, undef, undef, undef, undef, undef, undef, undef, undef, undef, undef, undef, undef, undef, undef, undef, undef, undef, undef, undef, undef, undef, undef, undef, undef, undef, undef, undef, undef, undef, undef, undef, undef, undef, undef, undef, undef, undef, undef, undef, undef] Try.func5 rfl rfl rfl ?_
  intro w Q hQr hQn hQp
  replace H := topE H
  unfold laws_FnExactTurnDiff.f at H
  refine HT_seq_k ?_
  intro K1 hK1
  refine HT_region ?_
  refine HL_cons rfl ?_
  refine o_assign ?_
  try dsimp only [putL, setL, evL, getL]
  refine HL_nil ?_
  refine hK1 _ _ ?_
  refine HT_seq_k ?_
  intro K2 hK2
  refine HT_region ?_
  refine HL_cons rfl ?_
  refine o_assign ?_
  try dsimp only [putL, setL, evL, getL]
  refine HL_nil ?_
  refine hK2 _ _ ?_
  refine HT_seq_k ?_
  intro K3 hK3
  refine HT_region ?_
  refine HL_cons rfl ?_
  refine o_move ?_
  try dsimp only [putL, setL, evL, getL]
  refine HL_cons rfl ?_
  refine o_move ?_
  try dsimp only [putL, setL, evL, getL]
  obtain ⟨u4, hu4, H⟩ := headE H
  refine HL_cons rfl ?_
  refine o_call (args := #[.slice A0p p0.length c0p, .int .i64 1048576]) Try.func28 rfl rfl rfl (laws_szEditS.ok sb s no A0p c0p p0 1048576 HRp0 (Hp.own hH.bs) _ hu4) ?_
  rintro _ s4 ⟨rfl, hD⟩
  replace hH := hH.back0 hD (Up.refl _ _ _)
  clear hD
  dsimp only [addC, setC, rmC, selC, getC] at hH
  try dsimp only [putL, setL, evL, getL]
  refine HL_cons rfl ?_
  refine o_assign ?_
  try dsimp only [putL, setL, evL, getL]
  refine HL_nil ?_
  refine hK3 _ _ ?_
  refine HT_seq_k ?_
  intro K5 hK5
  refine HT_seq_k ?_
  intro K6 hK6
  refine HT_region ?_
  refine HL_cons rfl ?_
  refine o_move ?_
  try dsimp only [putL, setL, evL, getL]
  refine HL_cons rfl ?_
  refine o_bin rfl rfl rfl ?_
  try dsimp only [putL, setL, evL, getL]
  refine HL_nil ?_
  refine hK6 _ _ ?_
  rcases Bool.eq_false_or_eq_true (decide (u4 < 0)) with hb7 | hb7
  · replace H := iteT hb7 H
    refine HT_true (congrArg Value.bool hb7) ?_
    refine HT_seq_k ?_
    intro K8 hK8
    refine HT_region ?_
    refine HL_cons rfl ?_
    refine o_assign ?_
    try dsimp only [putL, setL, evL, getL]
    refine HL_nil ?_
    refine hK8 _ _ ?_
    refine HT_ret ?_
    obtain rfl := Option.some.inj (show some _ = some r from H)
    exact hQr _ _ [.bool true] ⟨rfl, trivial⟩ ⟨rfl, hH⟩
  · replace H := iteF hb7 H
    refine HT_false (congrArg Value.bool hb7) ?_
    refine HT_skip ?_
    refine hK5 _ _ ?_
    refine HT_seq_k ?_
    intro K9 hK9
    refine HT_region ?_
    refine HL_cons rfl ?_
    refine o_move ?_
    try dsimp only [putL, setL, evL, getL]
    obtain ⟨u10, hu10, H⟩ := headE H
    refine HL_cons rfl ?_
    refine o_call (args := #[.slice A0p p0.length c0p]) Try.func30 rfl rfl rfl (laws_toEditS.ok sb s4 no A0p c0p p0 HRp0 (Hp.own hH.bs) _ hu10) ?_
    rintro _ s10 ⟨A11, c11, rfl, hD⟩
    replace hH := hH.back0 hD (Up.refl _ _ _)
    clear hD
    dsimp only [addC, setC, rmC, selC, getC] at hH
    try dsimp only [putL, setL, evL, getL]
    obtain ⟨u12, hu12, H⟩ := headE H
    refine HL_cons rfl ?_
    refine o_call (args := #[.slice A11 u10.length c11]) Try.func29 rfl rfl rfl (spec_TurnDiff.ok s10 s10 no A11 c11 u10 (hH.rd 0 rfl) (Hp.own (Bs.refl s10)) _ hu12) ?_
    rintro _ s12 ⟨A13, c13, rfl, hD⟩
    replace hH := hH.back0T hD
    clear hD
    dsimp only [addC, setC, rmC, selC, getC] at hH
    try dsimp only [putL, setL, evL, getL]
    refine HL_cons rfl ?_
    refine o_move ?_
    try dsimp only [putL, setL, evL, getL]
    refine HL_cons rfl ?_
    refine o_extract rfl rfl ?_
    try dsimp only [putL, setL, evL, getL]
    refine HL_cons rfl ?_
    refine o_extract rfl rfl ?_
    try dsimp only [putL, setL, evL, getL]
    refine HL_cons rfl ?_
    refine o_assign ?_
    try dsimp only [putL, setL, evL, getL]
    refine HL_cons rfl ?_
    refine o_assign ?_
    try dsimp only [putL, setL, evL, getL]
    refine HL_nil ?_
    refine hK9 _ _ ?_
    refine HT_seq_k ?_
    intro K14 hK14
    refine HT_region ?_
    refine HL_cons rfl ?_
    refine o_move ?_
    try dsimp only [putL, setL, evL, getL]
    obtain ⟨u15, hu15, H⟩ := headE H
    refine HL_cons rfl ?_
    refine o_call (args := #[.slice A0p p0.length c0p]) Try.func30 rfl rfl rfl (laws_toEditS.ok sb s12 no A0p c0p p0 HRp0 (Hp.own hH.bs) _ hu15) ?_
    rintro _ s15 ⟨A16, c16, rfl, hD⟩
    replace hH := hH.back0 hD (Up.refl _ _ _)
    clear hD
    dsimp only [addC, setC, rmC, selC, getC] at hH
    try dsimp only [putL, setL, evL, getL]
    refine HL_cons rfl ?_
    refine o_assign ?_
    try dsimp only [putL, setL, evL, getL]
    refine HL_nil ?_
    refine hK14 _ _ ?_
    refine HT_seq_k ?_
    intro K17 hK17
    refine HT_region ?_
    refine HL_cons rfl ?_
    refine o_move ?_
    try dsimp only [putL, setL, evL, getL]
    obtain ⟨u18, hu18, H⟩ := headE H
    refine HL_cons rfl ?_
    refine o_call (args := #[.slice A16 u15.length c16]) Try.func31 rfl rfl rfl (impl_TurnDiff.ok s15 s15 no A16 c16 u15 (hH.rd 2 rfl) (Hp.own (Bs.refl s15)) _ hu18) ?_
    rintro _ s18 ⟨A19, c19, rfl, hD⟩
    replace hH := hH.back0T hD
    clear hD
    dsimp only [addC, setC, rmC, selC, getC] at hH
    try dsimp only [putL, setL, evL, getL]
    refine HL_cons rfl ?_
    refine o_move ?_
    try dsimp only [putL, setL, evL, getL]
    refine HL_cons rfl ?_
    refine o_extract rfl rfl ?_
    try dsimp only [putL, setL, evL, getL]
    refine HL_cons rfl ?_
    refine o_extract rfl rfl ?_
    try dsimp only [putL, setL, evL, getL]
    refine HL_cons rfl ?_
    refine o_assign ?_
    try dsimp only [putL, setL, evL, getL]
    refine HL_cons rfl ?_
    refine o_assign ?_
    try dsimp only [putL, setL, evL, getL]
    refine HL_nil ?_
    refine hK17 _ _ ?_
    refine HT_seq_k ?_
    intro K30 hK30
    refine joinH H fun G31 hG31 H => ?_
    refine HT_joinK (fun l' s' => ∃ (x34 : Bool), G31 x34 = some r ∧ l' = [.slice A0p p0.length c0p, undef, .bool false, .int .i64 u4, .slice A13 u12.1.length c13, .bool u12.2, .slice A16 u15.length c16, .slice A19 u18.1.length c19, .bool u18.2, undef, undef, undef, undef, undef, .slice A0p p0.length c0p, .int .i64 1048576, .int .i64 u4, .int .i64 u4, .bool (decide (u4 < 0)), .tuple #[.slice A13 u12.1.length c13, .bool u12.2], .slice A0p p0.length c0p, .slice A11 u10.length c11, .tuple #[.slice A13 u12.1.length c13, .bool u12.2], .slice A13 u12.1.length c13, .bool u12.2, .slice A0p p0.length c0p, .slice A16 u15.length c16, .tuple #[.slice A19 u18.1.length c19, .bool u18.2], .slice A16 u15.length c16, .tuple #[.slice A19 u18.1.length c19, .bool u18.2], .slice A19 u18.1.length c19, .bool u18.2, getL l' 32, getL l' 33, getL l' 34, getL l' 35, getL l' 36, getL l' 37, getL l' 38, getL l' 39, .bool x34, undef, undef, undef, undef, undef, undef, undef, undef, undef, undef, undef, undef, undef, undef, undef, undef, undef, undef, undef, undef, undef, undef, undef, undef, undef, undef, undef, undef, undef, undef, undef, undef, undef, undef, undef, undef, undef, undef, undef, undef, undef, undef, undef, undef, undef, undef, undef, undef, undef, undef, undef, undef, undef, undef, undef] ∧ Hp sb s F0 s' [Ck.ol OS99 99 A13 c13 u12.1, Ck.ol OS99 99 A16 c16 u15, Ck.ol OS99 99 A19 c19 u18.1]) ?_ ?_
    · intro K31 hK31
      refine HT_region ?_
      refine HL_cons rfl ?_
      refine o_move ?_
      try dsimp only [putL, setL, evL, getL]
      refine HL_cons rfl ?_
      refine o_move ?_
      try dsimp only [putL, setL, evL, getL]
      obtain ⟨u35, hu35, H⟩ := headE H
      refine HL_cons rfl ?_
      refine o_call (args := #[.slice A19 u18.1.length c19, .slice A13 u12.1.length c13]) Try.func32 rfl rfl rfl (laws_eqEditS.ok s18 s18 no A19 c19 u18.1 A13 c13 u12.1 (hH.rd 3 rfl) (hH.rd 1 rfl) (Hp.own (Bs.refl s18)) _ hu35) ?_
      rintro _ s35 ⟨rfl, hD⟩
      replace hH := hH.back0T hD
      clear hD
      dsimp only [addC, setC, rmC, selC, getC] at hH
      try dsimp only [putL, setL, evL, getL]
      refine HL_cons rfl ?_
      refine o_not rfl ?_
      try dsimp only [putL, setL, evL, getL]
      refine HL_cons rfl ?_
      refine o_move ?_
      try dsimp only [putL, setL, evL, getL]
      rcases Bool.eq_false_or_eq_true (!u35) with hb36 | hb36
      · replace H := iteT hb36 H
        refine HL_skip ?_ ?_
        · exact wantF (j := 4) (b := false) (t := 36) (c := !u35) rfl rfl rfl rfl hb36
        try dsimp only [putL, setL, evL, getL]
        refine HL_skip ?_ ?_
        · exact wantF (j := 4) (b := false) (t := 36) (c := !u35) rfl rfl rfl rfl hb36
        try dsimp only [putL, setL, evL, getL]
        refine HL_skip ?_ ?_
        · exact wantF (j := 4) (b := false) (t := 36) (c := !u35) rfl rfl rfl rfl hb36
        try dsimp only [putL, setL, evL, getL]
        refine HL_cons rfl ?_
        refine o_pickT rfl hb36 ?_
        try dsimp only [putL, setL, evL, getL]
        refine HL_nil ?_
        exact hK31 _ _ ⟨true, H, rfl, hH.sel [1, 2, 3] (by decide)⟩
      · replace H := iteF hb36 H
        refine HL_want ?_ ?_
        · exact wantT (j := 4) (b := false) (t := 36) (c := !u35) rfl rfl rfl rfl hb36
        refine o_move ?_
        try dsimp only [putL, setL, evL, getL]
        refine HL_want ?_ ?_
        · exact wantT (j := 4) (b := false) (t := 36) (c := !u35) rfl rfl rfl rfl hb36
        refine o_move ?_
        try dsimp only [putL, setL, evL, getL]
        refine HL_want ?_ ?_
        · exact wantT (j := 4) (b := false) (t := 36) (c := !u35) rfl rfl rfl rfl hb36
        refine o_neb rfl rfl Try.underlying4 ?_
        try dsimp only [putL, setL, evL, getL]
        refine HL_cons rfl ?_
        refine o_pickF rfl hb36 ?_
        try dsimp only [putL, setL, evL, getL]
        refine HL_nil ?_
        exact hK31 _ _ ⟨u18.2 != u12.2, H, rfl, hH.sel [1, 2, 3] (by decide)⟩
    · rintro l' s37 ⟨x34, H, hl, hH⟩
      generalize getL l' 32 = j32, getL l' 33 = j33, getL l' 34 = j34, getL l' 35 = j35, getL l' 36 = j36, getL l' 37 = j37, getL l' 38 = j38, getL l' 39 = j39 at hl
      subst hl
      replace H := hG31 _ H
      try dsimp only at H
      rcases Bool.eq_false_or_eq_true x34 with hb38 | hb38
      · replace H := iteT hb38 H
        refine HT_true (congrArg Value.bool hb38) ?_
        refine HT_seq_k ?_
        intro K39 hK39
        refine HT_region ?_
        refine HL_cons rfl ?_
        refine o_assign ?_
        try dsimp only [putL, setL, evL, getL]
        refine HL_nil ?_
        refine hK39 _ _ ?_
        refine HT_ret ?_
        obtain rfl := Option.some.inj (show some _ = some r from H)
        exact hQr _ _ [.bool false] ⟨rfl, trivial⟩ ⟨rfl, hH.sel [] (by decide)⟩
      · replace H := iteF hb38 H
        refine HT_false (congrArg Value.bool hb38) ?_
        refine HT_skip ?_
        refine hK30 _ _ ?_
        refine HT_seq_k ?_
        intro K40 hK40
        refine HT_seq_k ?_
        intro K41 hK41
        refine HT_region ?_
        refine HL_cons rfl ?_
        refine o_move ?_
        try dsimp only [putL, setL, evL, getL]
        refine HL_cons rfl ?_
        refine o_move ?_
        try dsimp only [putL, setL, evL, getL]
        obtain ⟨u42, hu42, H⟩ := headE H
        refine HL_cons rfl ?_
        refine o_call (args := #[.slice A0p p0.length c0p]) Try.func30 rfl rfl rfl (laws_toEditS.ok sb s37 no A0p c0p p0 HRp0 (Hp.own hH.bs) _ hu42) ?_
        rintro _ s42 ⟨A43, c43, rfl, hD⟩
        replace hH := hH.back0 hD (Up.refl _ _ _)
        clear hD
        dsimp only [addC, setC, rmC, selC, getC] at hH
        try dsimp only [putL, setL, evL, getL]
        obtain ⟨u44, hu44, H⟩ := headE H
        refine HL_cons rfl ?_
        refine o_call (args := #[.slice A16 u15.length c16, .slice A43 u42.length c43]) Try.func32 rfl rfl rfl (laws_eqEditS.ok s42 s42 no A16 c16 u15 A43 c43 u42 (hH.rd 1 rfl) (hH.rd 3 rfl) (Hp.own (Bs.refl s42)) _ hu44) ?_
        rintro _ s44 ⟨rfl, hD⟩
        replace hH := hH.back0T hD
        clear hD
        dsimp only [addC, setC, rmC, selC, getC] at hH
        try dsimp only [putL, setL, evL, getL]
        refine HL_cons rfl ?_
        refine o_not rfl ?_
        try dsimp only [putL, setL, evL, getL]
        refine HL_nil ?_
        refine hK41 _ _ ?_
        rcases Bool.eq_false_or_eq_true (!u44) with hb45 | hb45
        · replace H := iteT hb45 H
          refine HT_true (congrArg Value.bool hb45) ?_
          refine HT_seq_k ?_
          intro K46 hK46
          refine HT_region ?_
          refine HL_cons rfl ?_
          refine o_assign ?_
          try dsimp only [putL, setL, evL, getL]
          refine HL_nil ?_
          refine hK46 _ _ ?_
          refine HT_ret ?_
          obtain rfl := Option.some.inj (show some _ = some r from H)
          exact hQr _ _ [.bool false] ⟨rfl, trivial⟩ ⟨rfl, hH.sel [] (by decide)⟩
        · replace H := iteF hb45 H
          refine HT_false (congrArg Value.bool hb45) ?_
          refine HT_skip ?_
          refine hK40 _ _ ?_
          refine HT_seq_k ?_
          intro K47 hK47
          refine HT_region ?_
          refine HL_cons rfl ?_
          refine o_assign ?_
          try dsimp only [putL, setL, evL, getL]
          refine HL_nil ?_
          refine hK47 _ _ ?_
          refine HT_seq_k ?_
          intro K48 hK48
          refine HT_region ?_
          refine HL_cons rfl ?_
          refine o_move ?_
          try dsimp only [putL, setL, evL, getL]
          refine HL_cons rfl ?_
          refine o_move ?_
          try dsimp only [putL, setL, evL, getL]
          obtain ⟨u49, hu49, H⟩ := headE H
          obtain ⟨F1, hA, hB⟩ := hH.take [1] (by decide)
          dsimp only [addC, setC, rmC, selC, getC] at hA
          refine HL_cons rfl ?_
          refine o_call (args := #[.slice A16 u15.length c16, .int .i64 1]) Try.func33 rfl rfl rfl (laws_markEditS.ok sb s44 F1 A16 c16 u15 1 hA _ hu49) ?_
          rintro _ s49 ⟨rfl, hD, hl50⟩
          replace hH := hB _ _ _ (Up.refl _ _ _) hD
          clear hD hA hB
          dsimp only [addC, setC, rmC, selC, getC] at hH
          try dsimp only [putL, setL, evL, getL]
          refine HL_cons rfl ?_
          refine o_assign ?_
          try dsimp only [putL, setL, evL, getL]
          refine HL_nil ?_
          refine hK48 _ _ ?_
          refine HT_seq_k ?_
          intro K63 hK63
          refine joinH H fun G64 hG64 H => ?_
          refine HT_joinK (fun l' s' => ∃ (x68 : Bool), G64 x68 = some r ∧ l' = [.slice A0p p0.length c0p, undef, .bool false, .int .i64 u4, .slice A13 u12.1.length c13, .bool u12.2, .slice A16 u15.length c16, .slice A19 u18.1.length c19, .bool u18.2, .int .i64 u49.1, undef, undef, undef, undef, .slice A0p p0.length c0p, .int .i64 1048576, .int .i64 u4, .int .i64 u4, .bool (decide (u4 < 0)), .tuple #[.slice A13 u12.1.length c13, .bool u12.2], .slice A0p p0.length c0p, .slice A11 u10.length c11, .tuple #[.slice A13 u12.1.length c13, .bool u12.2], .slice A13 u12.1.length c13, .bool u12.2, .slice A0p p0.length c0p, .slice A16 u15.length c16, .tuple #[.slice A19 u18.1.length c19, .bool u18.2], .slice A16 u15.length c16, .tuple #[.slice A19 u18.1.length c19, .bool u18.2], .slice A19 u18.1.length c19, .bool u18.2, j32, j33, j34, j35, j36, j37, j38, j39, .bool x34, .slice A16 u15.length c16, .slice A0p p0.length c0p, .slice A43 u42.length c43, .bool u44, .bool (!u44), .slice A16 u15.length c16, .int .i64 1, .int .i64 u49.1, getL l' 49, getL l' 50, getL l' 51, getL l' 52, getL l' 53, getL l' 54, getL l' 55, getL l' 56, getL l' 57, getL l' 58, getL l' 59, getL l' 60, .bool x68, undef, undef, undef, undef, undef, undef, undef, undef, undef, undef, undef, undef, undef, undef, undef, undef, undef, undef, undef, undef, undef, undef, undef, undef, undef, undef, undef, undef, undef, undef, undef, undef, undef, undef] ∧ Hp sb s F0 s' [Ck.ol OS99 99 A13 c13 u12.1, Ck.ol OS99 99 A19 c19 u18.1]) ?_ ?_
          · intro K64 hK64
            refine HT_region ?_
            refine HL_cons rfl ?_
            refine o_move ?_
            try dsimp only [putL, setL, evL, getL]
            refine HL_cons rfl ?_
            refine o_bin rfl rfl rfl ?_
            try dsimp only [putL, setL, evL, getL]
            refine HL_cons rfl ?_
            refine o_move ?_
            try dsimp only [putL, setL, evL, getL]
            rcases Bool.eq_false_or_eq_true (decide (u49.1 < 0)) with hb69 | hb69
            · replace H := iteT hb69 H
              refine HL_skip ?_ ?_
              · exact wantF (j := 2) (b := false) (t := 51) (c := decide (u49.1 < 0)) rfl rfl rfl rfl hb69
              try dsimp only [putL, setL, evL, getL]
              refine HL_skip ?_ ?_
              · exact wantF (j := 2) (b := false) (t := 51) (c := decide (u49.1 < 0)) rfl rfl rfl rfl hb69
              try dsimp only [putL, setL, evL, getL]
              refine HL_skip ?_ ?_
              · exact wantF (j := 2) (b := false) (t := 51) (c := decide (u49.1 < 0)) rfl rfl rfl rfl hb69
              try dsimp only [putL, setL, evL, getL]
              refine HL_skip ?_ ?_
              · exact wantF (j := 2) (b := false) (t := 51) (c := decide (u49.1 < 0)) rfl rfl rfl rfl hb69
              try dsimp only [putL, setL, evL, getL]
              refine HL_cons rfl ?_
              refine o_pickT rfl hb69 ?_
              try dsimp only [putL, setL, evL, getL]
              refine HL_cons rfl ?_
              refine o_move ?_
              try dsimp only [putL, setL, evL, getL]
              refine HL_skip ?_ ?_
              · exact wantF (j := 8) (b := false) (t := 57) (c := true) rfl rfl rfl rfl rfl
              try dsimp only [putL, setL, evL, getL]
              refine HL_skip ?_ ?_
              · exact wantF (j := 8) (b := false) (t := 57) (c := true) rfl rfl rfl rfl rfl
              try dsimp only [putL, setL, evL, getL]
              refine HL_skip ?_ ?_
              · exact wantF (j := 8) (b := false) (t := 57) (c := true) rfl rfl rfl rfl rfl
              try dsimp only [putL, setL, evL, getL]
              refine HL_cons rfl ?_
              refine o_pickT rfl rfl ?_
              try dsimp only [putL, setL, evL, getL]
              refine HL_nil ?_
              exact hK64 _ _ ⟨true, H, rfl, hH.sel [0, 2] (by decide)⟩
            · replace H := iteF hb69 H
              refine HL_want ?_ ?_
              · exact wantT (j := 2) (b := false) (t := 51) (c := decide (u49.1 < 0)) rfl rfl rfl rfl hb69
              refine o_move ?_
              try dsimp only [putL, setL, evL, getL]
              refine HL_want ?_ ?_
              · exact wantT (j := 2) (b := false) (t := 51) (c := decide (u49.1 < 0)) rfl rfl rfl rfl hb69
              refine o_move ?_
              try dsimp only [putL, setL, evL, getL]
              obtain ⟨u70, hu70, H⟩ := headE H
              refine HL_want ?_ ?_
              · exact wantT (j := 2) (b := false) (t := 51) (c := decide (u49.1 < 0)) rfl rfl rfl rfl hb69
              refine o_call (args := #[.slice A19 u18.1.length c19, .slice A13 u12.1.length c13]) Try.func32 rfl rfl rfl (laws_eqEditS.ok s49 s49 no A19 c19 u18.1 A13 c13 u12.1 (hH.rd 2 rfl) (hH.rd 0 rfl) (Hp.own (Bs.refl s49)) _ hu70) ?_
              rintro _ s70 ⟨rfl, hD⟩
              replace hH := hH.back0T hD
              clear hD
              dsimp only [addC, setC, rmC, selC, getC] at hH
              try dsimp only [putL, setL, evL, getL]
              refine HL_want ?_ ?_
              · exact wantT (j := 2) (b := false) (t := 51) (c := decide (u49.1 < 0)) rfl rfl rfl rfl hb69
              refine o_not rfl ?_
              try dsimp only [putL, setL, evL, getL]
              refine HL_cons rfl ?_
              refine o_pickF rfl hb69 ?_
              try dsimp only [putL, setL, evL, getL]
              refine HL_cons rfl ?_
              refine o_move ?_
              try dsimp only [putL, setL, evL, getL]
              rcases Bool.eq_false_or_eq_true (!u70) with hb71 | hb71
              · replace H := iteT hb71 H
                refine HL_skip ?_ ?_
                · exact wantF (j := 8) (b := false) (t := 57) (c := !u70) rfl rfl rfl rfl hb71
                try dsimp only [putL, setL, evL, getL]
                refine HL_skip ?_ ?_
                · exact wantF (j := 8) (b := false) (t := 57) (c := !u70) rfl rfl rfl rfl hb71
                try dsimp only [putL, setL, evL, getL]
                refine HL_skip ?_ ?_
                · exact wantF (j := 8) (b := false) (t := 57) (c := !u70) rfl rfl rfl rfl hb71
                try dsimp only [putL, setL, evL, getL]
                refine HL_cons rfl ?_
                refine o_pickT rfl hb71 ?_
                try dsimp only [putL, setL, evL, getL]
                refine HL_nil ?_
                exact hK64 _ _ ⟨true, H, rfl, hH.sel [0, 2] (by decide)⟩
              · replace H := iteF hb71 H
                refine HL_want ?_ ?_
                · exact wantT (j := 8) (b := false) (t := 57) (c := !u70) rfl rfl rfl rfl hb71
                refine o_move ?_
                try dsimp only [putL, setL, evL, getL]
                refine HL_want ?_ ?_
                · exact wantT (j := 8) (b := false) (t := 57) (c := !u70) rfl rfl rfl rfl hb71
                refine o_move ?_
                try dsimp only [putL, setL, evL, getL]
                refine HL_want ?_ ?_
                · exact wantT (j := 8) (b := false) (t := 57) (c := !u70) rfl rfl rfl rfl hb71
                refine o_neb rfl rfl Try.underlying4 ?_
                try dsimp only [putL, setL, evL, getL]
                refine HL_cons rfl ?_
                refine o_pickF rfl hb71 ?_
                try dsimp only [putL, setL, evL, getL]
                refine HL_nil ?_
                exact hK64 _ _ ⟨u18.2 != u12.2, H, rfl, hH.sel [0, 2] (by decide)⟩
          · rintro l' s72 ⟨x68, H, hl, hH⟩
            generalize getL l' 49 = j49, getL l' 50 = j50, getL l' 51 = j51, getL l' 52 = j52, getL l' 53 = j53, getL l' 54 = j54, getL l' 55 = j55, getL l' 56 = j56, getL l' 57 = j57, getL l' 58 = j58, getL l' 59 = j59, getL l' 60 = j60 at hl
            subst hl
            replace H := hG64 _ H
            try dsimp only at H
            rcases Bool.eq_false_or_eq_true x68 with hb73 | hb73
            · replace H := iteT hb73 H
              refine HT_true (congrArg Value.bool hb73) ?_
              refine HT_seq_k ?_
              intro K74 hK74
              refine HT_region ?_
              refine HL_cons rfl ?_
              refine o_assign ?_
              try dsimp only [putL, setL, evL, getL]
              refine HL_nil ?_
              refine hK74 _ _ ?_
              refine HT_ret ?_
              obtain rfl := Option.some.inj (show some _ = some r from H)
              exact hQr _ _ [.bool false] ⟨rfl, trivial⟩ ⟨rfl, hH.sel [] (by decide)⟩
            · replace H := iteF hb73 H
              refine HT_false (congrArg Value.bool hb73) ?_
              refine HT_skip ?_
              refine hK63 _ _ ?_
              refine HT_seq_k ?_
              intro K75 hK75
              refine HT_region ?_
              refine HL_cons rfl ?_
              refine o_assign ?_
              try dsimp only [putL, setL, evL, getL]
              refine HL_nil ?_
              refine hK75 _ _ ?_
              refine HT_seq_k ?_
              intro K76 hK76
              refine HT_region ?_
              refine HL_cons rfl ?_
              refine o_move ?_
              try dsimp only [putL, setL, evL, getL]
              refine HL_cons rfl ?_
              refine o_move ?_
              try dsimp only [putL, setL, evL, getL]
              obtain ⟨u77, hu77, H⟩ := headE H
              obtain ⟨F1, hA, hB⟩ := hH.take [1] (by decide)
              dsimp only [addC, setC, rmC, selC, getC] at hA
              refine HL_cons rfl ?_
              refine o_call (args := #[.slice A19 u18.1.length c19, .int .i64 1]) Try.func33 rfl rfl rfl (laws_markEditS.ok sb s72 F1 A19 c19 u18.1 1 hA _ hu77) ?_
              rintro _ s77 ⟨rfl, hD, hl78⟩
              replace hH := hB _ _ _ (Up.refl _ _ _) hD
              clear hD hA hB
              dsimp only [addC, setC, rmC, selC, getC] at hH
              try dsimp only [putL, setL, evL, getL]
              refine HL_cons rfl ?_
              refine o_assign ?_
              try dsimp only [putL, setL, evL, getL]
              refine HL_nil ?_
              refine hK76 _ _ ?_
              refine HT_seq_k ?_
              intro K79 hK79
              refine HT_region ?_
              refine HL_cons rfl ?_
              refine o_assign ?_
              try dsimp only [putL, setL, evL, getL]
              refine HL_nil ?_
              refine hK79 _ _ ?_
              refine HT_seq_k ?_
              intro K80 hK80
              refine HT_region ?_
              refine HL_cons rfl ?_
              refine o_move ?_
              try dsimp only [putL, setL, evL, getL]
              refine HL_cons rfl ?_
              refine o_move ?_
              try dsimp only [putL, setL, evL, getL]
              obtain ⟨u81, hu81, H⟩ := headE H
              refine HL_cons rfl ?_
              refine o_call (args := #[.slice A19 u77.2.length c19, .int .i64 1]) Try.func34 rfl rfl (by show ([.slice A19 u18.1.length c19, .int .i64 1] : List Value) = [.slice A19 u77.2.length c19, .int .i64 1]; rw [hl78]; first | done | rfl) (laws_heldEditS.ok s77 s77 no A19 c19 u77.2 1 (hH.rd 2 rfl) (Hp.own (Bs.refl s77)) _ hu81) ?_
              rintro _ s81 ⟨rfl, hD⟩
              replace hH := hH.back0T hD
              clear hD
              dsimp only [addC, setC, rmC, selC, getC] at hH
              try dsimp only [putL, setL, evL, getL]
              refine HL_cons rfl ?_
              refine o_assign ?_
              try dsimp only [putL, setL, evL, getL]
              refine HL_nil ?_
              refine hK80 _ _ ?_
              refine HT_seq_k ?_
              intro K82 hK82
              refine HT_seq_k ?_
              intro K83 hK83
              refine HT_region ?_
              refine HL_cons rfl ?_
              refine o_move ?_
              try dsimp only [putL, setL, evL, getL]
              refine HL_cons rfl ?_
              refine o_bin rfl rfl rfl ?_
              try dsimp only [putL, setL, evL, getL]
              refine HL_nil ?_
              refine hK83 _ _ ?_
              rcases Bool.eq_false_or_eq_true (decide (u81 < 0)) with hb84 | hb84
              · replace H := iteT hb84 H
                refine HT_true (congrArg Value.bool hb84) ?_
                refine HT_seq_k ?_
                intro K85 hK85
                refine HT_region ?_
                refine HL_cons rfl ?_
                refine o_assign ?_
                try dsimp only [putL, setL, evL, getL]
                refine HL_nil ?_
                refine hK85 _ _ ?_
                refine HT_ret ?_
                obtain rfl := Option.some.inj (show some _ = some r from H)
                exact hQr _ _ [.bool false] ⟨rfl, trivial⟩ ⟨rfl, hH.sel [] (by decide)⟩
              · replace H := iteF hb84 H
                refine HT_false (congrArg Value.bool hb84) ?_
                refine HT_skip ?_
                refine hK82 _ _ ?_
                refine HT_seq_k ?_
                intro K86 hK86
                refine HT_seq_k ?_
                intro K87 hK87
                refine HT_region ?_
                refine HL_cons rfl ?_
                refine o_move ?_
                try dsimp only [putL, setL, evL, getL]
                refine HL_cons rfl ?_
                refine o_move ?_
                try dsimp only [putL, setL, evL, getL]
                refine HL_cons rfl ?_
                refine o_bin rfl rfl rfl ?_
                try dsimp only [putL, setL, evL, getL]
                refine HL_nil ?_
                refine hK87 _ _ ?_
                rcases Bool.eq_false_or_eq_true (u81 != u77.1) with hb88 | hb88
                · replace H := iteT hb88 H
                  refine HT_true (congrArg Value.bool hb88) ?_
                  refine HT_seq_k ?_
                  intro K89 hK89
                  refine HT_region ?_
                  refine HL_cons rfl ?_
                  refine o_assign ?_
                  try dsimp only [putL, setL, evL, getL]
                  refine HL_nil ?_
                  refine hK89 _ _ ?_
                  refine HT_ret ?_
                  obtain rfl := Option.some.inj (show some _ = some r from H)
                  exact hQr _ _ [.bool false] ⟨rfl, trivial⟩ ⟨rfl, hH.sel [] (by decide)⟩
                · replace H := iteF hb88 H
                  refine HT_false (congrArg Value.bool hb88) ?_
                  refine HT_skip ?_
                  refine hK86 _ _ ?_
                  refine HT_seq_k ?_
                  intro K90 hK90
                  refine HT_region ?_
                  refine HL_cons rfl ?_
                  refine o_move ?_
                  try dsimp only [putL, setL, evL, getL]
                  obtain ⟨u91, hu91, H⟩ := headE H
                  refine HL_cons rfl ?_
                  refine o_call (args := #[.slice A0p p0.length c0p]) Try.func30 rfl rfl rfl (laws_toEditS.ok sb s81 no A0p c0p p0 HRp0 (Hp.own hH.bs) _ hu91) ?_
                  rintro _ s91 ⟨A92, c92, rfl, hD⟩
                  replace hH := hH.back0 hD (Up.refl _ _ _)
                  clear hD
                  dsimp only [addC, setC, rmC, selC, getC] at hH
                  try dsimp only [putL, setL, evL, getL]
                  obtain ⟨u93, hu93, H⟩ := headE H
                  refine HL_cons rfl ?_
                  refine o_call (args := #[.slice A92 u91.length c92]) Try.func31 rfl rfl rfl (impl_TurnDiff.ok s91 s91 no A92 c92 u91 (hH.rd 3 rfl) (Hp.own (Bs.refl s91)) _ hu93) ?_
                  rintro _ s93 ⟨A94, c94, rfl, hD⟩
                  replace hH := hH.back0T hD
                  clear hD
                  dsimp only [addC, setC, rmC, selC, getC] at hH
                  try dsimp only [putL, setL, evL, getL]
                  refine HL_cons rfl ?_
                  refine o_move ?_
                  try dsimp only [putL, setL, evL, getL]
                  refine HL_cons rfl ?_
                  refine o_extract rfl rfl ?_
                  try dsimp only [putL, setL, evL, getL]
                  refine HL_cons rfl ?_
                  refine o_extract rfl rfl ?_
                  try dsimp only [putL, setL, evL, getL]
                  refine HL_cons rfl ?_
                  refine o_assign ?_
                  try dsimp only [putL, setL, evL, getL]
                  refine HL_cons rfl ?_
                  refine o_assign ?_
                  try dsimp only [putL, setL, evL, getL]
                  refine HL_nil ?_
                  refine hK90 _ _ ?_
                  refine HT_seq_k ?_
                  intro K105 hK105
                  refine joinH H fun G106 hG106 H => ?_
                  refine HT_joinK (fun l' s' => ∃ (x109 : Bool), G106 x109 = some r ∧ l' = [.slice A0p p0.length c0p, undef, .bool false, .int .i64 u4, .slice A13 u12.1.length c13, .bool u12.2, .slice A16 u15.length c16, .slice A19 u18.1.length c19, .bool u18.2, .int .i64 u49.1, .int .i64 u77.1, .int .i64 u81, .slice A94 u93.1.length c94, .bool u93.2, .slice A0p p0.length c0p, .int .i64 1048576, .int .i64 u4, .int .i64 u4, .bool (decide (u4 < 0)), .tuple #[.slice A13 u12.1.length c13, .bool u12.2], .slice A0p p0.length c0p, .slice A11 u10.length c11, .tuple #[.slice A13 u12.1.length c13, .bool u12.2], .slice A13 u12.1.length c13, .bool u12.2, .slice A0p p0.length c0p, .slice A16 u15.length c16, .tuple #[.slice A19 u18.1.length c19, .bool u18.2], .slice A16 u15.length c16, .tuple #[.slice A19 u18.1.length c19, .bool u18.2], .slice A19 u18.1.length c19, .bool u18.2, j32, j33, j34, j35, j36, j37, j38, j39, .bool x34, .slice A16 u15.length c16, .slice A0p p0.length c0p, .slice A43 u42.length c43, .bool u44, .bool (!u44), .slice A16 u15.length c16, .int .i64 1, .int .i64 u49.1, j49, j50, j51, j52, j53, j54, j55, j56, j57, j58, j59, j60, .bool x68, .slice A19 u18.1.length c19, .int .i64 1, .int .i64 u77.1, .slice A19 u18.1.length c19, .int .i64 1, .int .i64 u81, .int .i64 u81, .bool (decide (u81 < 0)), .int .i64 u81, .int .i64 u77.1, .bool (u81 != u77.1), .tuple #[.slice A94 u93.1.length c94, .bool u93.2], .slice A0p p0.length c0p, .slice A92 u91.length c92, .tuple #[.slice A94 u93.1.length c94, .bool u93.2], .slice A94 u93.1.length c94, .bool u93.2, getL l' 79, getL l' 80, getL l' 81, getL l' 82, getL l' 83, getL l' 84, getL l' 85, getL l' 86, .bool x109, undef, undef, undef, undef, undef, undef, undef, undef] ∧ Hp sb s F0 s' [Ck.ol OS99 99 A19 c19 u77.2]) ?_ ?_
                  · intro K106 hK106
                    refine HT_region ?_
                    refine HL_cons rfl ?_
                    refine o_move ?_
                    try dsimp only [putL, setL, evL, getL]
                    refine HL_cons rfl ?_
                    refine o_move ?_
                    try dsimp only [putL, setL, evL, getL]
                    obtain ⟨u110, hu110, H⟩ := headE H
                    refine HL_cons rfl ?_
                    refine o_call (args := #[.slice A94 u93.1.length c94, .slice A13 u12.1.length c13]) Try.func32 rfl rfl rfl (laws_eqEditS.ok s93 s93 no A94 c94 u93.1 A13 c13 u12.1 (hH.rd 4 rfl) (hH.rd 0 rfl) (Hp.own (Bs.refl s93)) _ hu110) ?_
                    rintro _ s110 ⟨rfl, hD⟩
                    replace hH := hH.back0T hD
                    clear hD
                    dsimp only [addC, setC, rmC, selC, getC] at hH
                    try dsimp only [putL, setL, evL, getL]
                    refine HL_cons rfl ?_
                    refine o_not rfl ?_
                    try dsimp only [putL, setL, evL, getL]
                    refine HL_cons rfl ?_
                    refine o_move ?_
                    try dsimp only [putL, setL, evL, getL]
                    rcases Bool.eq_false_or_eq_true (!u110) with hb111 | hb111
                    · replace H := iteT hb111 H
                      refine HL_skip ?_ ?_
                      · exact wantF (j := 4) (b := false) (t := 83) (c := !u110) rfl rfl rfl rfl hb111
                      try dsimp only [putL, setL, evL, getL]
                      refine HL_skip ?_ ?_
                      · exact wantF (j := 4) (b := false) (t := 83) (c := !u110) rfl rfl rfl rfl hb111
                      try dsimp only [putL, setL, evL, getL]
                      refine HL_skip ?_ ?_
                      · exact wantF (j := 4) (b := false) (t := 83) (c := !u110) rfl rfl rfl rfl hb111
                      try dsimp only [putL, setL, evL, getL]
                      refine HL_cons rfl ?_
                      refine o_pickT rfl hb111 ?_
                      try dsimp only [putL, setL, evL, getL]
                      refine HL_nil ?_
                      exact hK106 _ _ ⟨true, H, rfl, hH.sel [2] (by decide)⟩
                    · replace H := iteF hb111 H
                      refine HL_want ?_ ?_
                      · exact wantT (j := 4) (b := false) (t := 83) (c := !u110) rfl rfl rfl rfl hb111
                      refine o_move ?_
                      try dsimp only [putL, setL, evL, getL]
                      refine HL_want ?_ ?_
                      · exact wantT (j := 4) (b := false) (t := 83) (c := !u110) rfl rfl rfl rfl hb111
                      refine o_move ?_
                      try dsimp only [putL, setL, evL, getL]
                      refine HL_want ?_ ?_
                      · exact wantT (j := 4) (b := false) (t := 83) (c := !u110) rfl rfl rfl rfl hb111
                      refine o_neb rfl rfl Try.underlying4 ?_
                      try dsimp only [putL, setL, evL, getL]
                      refine HL_cons rfl ?_
                      refine o_pickF rfl hb111 ?_
                      try dsimp only [putL, setL, evL, getL]
                      refine HL_nil ?_
                      exact hK106 _ _ ⟨u93.2 != u12.2, H, rfl, hH.sel [2] (by decide)⟩
                  · rintro l' s112 ⟨x109, H, hl, hH⟩
                    generalize getL l' 79 = j79, getL l' 80 = j80, getL l' 81 = j81, getL l' 82 = j82, getL l' 83 = j83, getL l' 84 = j84, getL l' 85 = j85, getL l' 86 = j86 at hl
                    subst hl
                    replace H := hG106 _ H
                    try dsimp only at H
                    rcases Bool.eq_false_or_eq_true x109 with hb113 | hb113
                    · replace H := iteT hb113 H
                      refine HT_true (congrArg Value.bool hb113) ?_
                      refine HT_seq_k ?_
                      intro K114 hK114
                      refine HT_region ?_
                      refine HL_cons rfl ?_
                      refine o_assign ?_
                      try dsimp only [putL, setL, evL, getL]
                      refine HL_nil ?_
                      refine hK114 _ _ ?_
                      refine HT_ret ?_
                      obtain rfl := Option.some.inj (show some _ = some r from H)
                      exact hQr _ _ [.bool false] ⟨rfl, trivial⟩ ⟨rfl, hH.sel [] (by decide)⟩
                    · replace H := iteF hb113 H
                      refine HT_false (congrArg Value.bool hb113) ?_
                      refine HT_skip ?_
                      refine hK105 _ _ ?_
                      refine HT_seq_k ?_
                      intro K115 hK115
                      refine HT_region ?_
                      refine HL_cons rfl ?_
                      refine o_assign ?_
                      try dsimp only [putL, setL, evL, getL]
                      refine HL_nil ?_
                      refine hK115 _ _ ?_
                      refine HT_seq_k ?_
                      intro K116 hK116
                      refine HT_region ?_
                      refine HL_cons rfl ?_
                      refine o_move ?_
                      try dsimp only [putL, setL, evL, getL]
                      refine HL_cons rfl ?_
                      refine o_move ?_
                      try dsimp only [putL, setL, evL, getL]
                      obtain ⟨u117, hu117, H⟩ := headE H
                      refine HL_cons rfl ?_
                      refine o_call (args := #[.slice A19 u77.2.length c19, .int .i64 1]) Try.func34 rfl rfl (by show ([.slice A19 u18.1.length c19, .int .i64 1] : List Value) = [.slice A19 u77.2.length c19, .int .i64 1]; rw [hl78]; first | done | rfl) (laws_heldEditS.ok s112 s112 no A19 c19 u77.2 1 (hH.rd 0 rfl) (Hp.own (Bs.refl s112)) _ hu117) ?_
                      rintro _ s117 ⟨rfl, hD⟩
                      replace hH := hH.back0T hD
                      clear hD
                      dsimp only [addC, setC, rmC, selC, getC] at hH
                      try dsimp only [putL, setL, evL, getL]
                      refine HL_cons rfl ?_
                      refine o_assign ?_
                      try dsimp only [putL, setL, evL, getL]
                      refine HL_nil ?_
                      refine hK116 _ _ ?_
                      refine HT_seq_k ?_
                      intro K118 hK118
                      refine HT_seq_k ?_
                      intro K119 hK119
                      refine HT_region ?_
                      refine HL_cons rfl ?_
                      refine o_move ?_
                      try dsimp only [putL, setL, evL, getL]
                      refine HL_cons rfl ?_
                      refine o_bin rfl rfl rfl ?_
                      try dsimp only [putL, setL, evL, getL]
                      refine HL_nil ?_
                      refine hK119 _ _ ?_
                      rcases Bool.eq_false_or_eq_true (decide (u117 < 0)) with hb120 | hb120
                      · replace H := iteT hb120 H
                        refine HT_true (congrArg Value.bool hb120) ?_
                        refine HT_seq_k ?_
                        intro K121 hK121
                        refine HT_region ?_
                        refine HL_cons rfl ?_
                        refine o_assign ?_
                        try dsimp only [putL, setL, evL, getL]
                        refine HL_nil ?_
                        refine hK121 _ _ ?_
                        refine HT_ret ?_
                        obtain rfl := Option.some.inj (show some _ = some r from H)
                        exact hQr _ _ [.bool false] ⟨rfl, trivial⟩ ⟨rfl, hH.sel [] (by decide)⟩
                      · replace H := iteF hb120 H
                        refine HT_false (congrArg Value.bool hb120) ?_
                        refine HT_skip ?_
                        refine hK118 _ _ ?_
                        refine HT_seq_k ?_
                        intro K122 hK122
                        refine HT_seq_k ?_
                        intro K123 hK123
                        refine HT_region ?_
                        refine HL_cons rfl ?_
                        refine o_move ?_
                        try dsimp only [putL, setL, evL, getL]
                        refine HL_cons rfl ?_
                        refine o_move ?_
                        try dsimp only [putL, setL, evL, getL]
                        refine HL_cons rfl ?_
                        refine o_bin rfl rfl rfl ?_
                        try dsimp only [putL, setL, evL, getL]
                        refine HL_nil ?_
                        refine hK123 _ _ ?_
                        rcases Bool.eq_false_or_eq_true (u117 != u77.1) with hb124 | hb124
                        · replace H := iteT hb124 H
                          refine HT_true (congrArg Value.bool hb124) ?_
                          refine HT_seq_k ?_
                          intro K125 hK125
                          refine HT_region ?_
                          refine HL_cons rfl ?_
                          refine o_assign ?_
                          try dsimp only [putL, setL, evL, getL]
                          refine HL_nil ?_
                          refine hK125 _ _ ?_
                          refine HT_ret ?_
                          obtain rfl := Option.some.inj (show some _ = some r from H)
                          exact hQr _ _ [.bool false] ⟨rfl, trivial⟩ ⟨rfl, hH.sel [] (by decide)⟩
                        · replace H := iteF hb124 H
                          refine HT_false (congrArg Value.bool hb124) ?_
                          refine HT_skip ?_
                          refine hK122 _ _ ?_
                          refine HT_seq_k ?_
                          intro K126 hK126
                          refine HT_region ?_
                          refine HL_cons rfl ?_
                          refine o_assign ?_
                          try dsimp only [putL, setL, evL, getL]
                          refine HL_nil ?_
                          refine hK126 _ _ ?_
                          refine HT_ret ?_
                          obtain rfl := Option.some.inj (show some _ = some r from H)
                          exact hQr _ _ [.bool true] ⟨rfl, trivial⟩ ⟨rfl, hH.sel [] (by decide)⟩
end Go.Proofs.Ytopecknfnhocpaa
