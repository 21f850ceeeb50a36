/- The functions that the law reaches, as plain functions, each with its contract: printed by a program of the prover's. No conditions: lemmas. -/
import Derived.Test.YtihocjbngajjkaaWNearEnds0
set_option linter.unusedVariables false
set_option linter.unusedSimpArgs false
namespace Go.Proofs.Ytihocjbngajjkaa
open Go Go.Proofs.GL
def laws_eqIntS.l1 (p0 : List (Int)) (p1 : List (Int)) : Nat → Int → Option (Lo Unit Bool)
  | 0, _ => none
  | kf + 1, x48 => if (decide (x48 < (p0.length : Int))) = true then ((rd? p0 x48).bind fun u65 => (rd? p1 x48).bind fun u66 => if (u65 != u66) = true then ((some false).bind fun z => some (Lo.ret z)) else (laws_eqIntS.l1 p0 p1 kf (IntKind.i64.wrap (x48 + 1)))) else (some (Lo.go ()))
def laws_eqIntS.f (p0 : List (Int)) (p1 : List (Int)) : Option Bool := if ((p0.length : Int) != (p1.length : Int)) = true then (some false) else ((laws_eqIntS.l1 p0 p1 ((((p0.length : Int)) - (0)).toNat + 2) 0).bind fun (o : Lo Unit Bool) => match o with | .go () => (some true) | .ret z => some z)
def laws_eqIntS.post (sb s : St) (F0 : Fp) (r : Bool) : Value → St → Prop := fun v s' => v = .bool r ∧ Hp sb s F0 s' []
set_option maxRecDepth 100000 in
set_option maxHeartbeats 4000000 in
theorem laws_eqIntS.ok (sb s : St) (F0 : Fp) (A0p : Option Addr) (c0p : Nat) (p0 : List (Int)) (A1p : Option Addr) (c1p : Nat) (p1 : List (Int)) (HRp0 : Rd KI sb A0p c0p p0) (HRp1 : Rd KI sb A1p c1p p1) (hH : Hp sb s F0 s []) (r : Bool) (H : laws_eqIntS.f p0 p1 = some r) : GCall Try.prog 17 #[.slice A0p p0.length c0p, .slice A1p p1.length c1p] s (laws_eqIntS.post sb s F0 r) := by
  refine GCall_ofk [.tmp 4] [.slice A0p p0.length c0p, .slice A1p p1.length c1p, undef, undef, undef, undef, undef, undef, undef, undef, undef, undef, undef, undef, undef, undef, undef, undef, undef, undef, undef, undef, undef, undef, undef, undef] Try.func17 rfl rfl rfl ?_
  intro w Q hQr hQn hQp
  replace H := topE H
  unfold laws_eqIntS.f at H
  refine HT_seq_k ?_
  intro K1 hK1
  refine HT_region ?_
  refine HL_cons rfl ?_
  refine o_assign ?_
  try dsimp only [putL, setL, evL, getL]
  refine HL_nil ?_
  refine hK1 _ _ ?_
  refine HT_seq_k ?_
  intro K2 hK2
  refine HT_seq_k ?_
  intro K3 hK3
  refine HT_region ?_
  refine HL_cons rfl ?_
  refine o_move ?_
  try dsimp only [putL, setL, evL, getL]
  refine HL_cons rfl ?_
  refine o_len rfl Try.underlying22 ?_
  try dsimp only [putL, setL, evL, getL]
  refine HL_cons rfl ?_
  refine o_move ?_
  try dsimp only [putL, setL, evL, getL]
  refine HL_cons rfl ?_
  refine o_len rfl Try.underlying22 ?_
  try dsimp only [putL, setL, evL, getL]
  refine HL_cons rfl ?_
  refine o_bin rfl rfl rfl ?_
  try dsimp only [putL, setL, evL, getL]
  refine HL_nil ?_
  refine hK3 _ _ ?_
  rcases Bool.eq_false_or_eq_true ((p0.length : Int) != (p1.length : Int)) with hb4 | hb4
  · replace H := iteT hb4 H
    refine HT_true (congrArg Value.bool hb4) ?_
    refine HT_seq_k ?_
    intro K5 hK5
    refine HT_region ?_
    refine HL_cons rfl ?_
    refine o_assign ?_
    try dsimp only [putL, setL, evL, getL]
    refine HL_nil ?_
    refine hK5 _ _ ?_
    refine HT_ret ?_
    obtain rfl := Option.some.inj (show some _ = some r from H)
    exact hQr _ _ [.bool false] ⟨rfl, trivial⟩ ⟨rfl, hH⟩
  · replace H := iteF hb4 H
    refine HT_false (congrArg Value.bool hb4) ?_
    refine HT_skip ?_
    refine hK2 _ _ ?_
    refine HT_seq_k ?_
    intro K6 hK6
    refine HT_seq_k ?_
    intro K7 hK7
    refine HT_region ?_
    refine HL_cons rfl ?_
    refine o_assign ?_
    try dsimp only [putL, setL, evL, getL]
    refine HL_nil ?_
    refine hK7 _ _ ?_
    refine joinH H fun G8 hG8 H => ?_
    refine HT_toK (fun l' s' => G8 (.go ()) = some r ∧ l' = [.slice A0p p0.length c0p, .slice A1p p1.length c1p, undef, undef, getL l' 4, getL l' 5, .slice A0p p0.length c0p, .int .i64 (p0.length : Int), .slice A1p p1.length c1p, .int .i64 (p1.length : Int), .bool ((p0.length : Int) != (p1.length : Int)), getL l' 11, getL l' 12, getL l' 13, getL l' 14, getL l' 15, getL l' 16, getL l' 17, getL l' 18, getL l' 19, getL l' 20, getL l' 21, getL l' 22, getL l' 23, getL l' 24, getL l' 25] ∧ Hp sb s F0 s' []) ?_ ?_
    · intro K8 hK8
      refine HT_block ?_
      refine HT_loopK (fun kf l' s' => ∃ (x48 : Int), (laws_eqIntS.l1 p0 p1 kf x48).bind G8 = some r ∧ l' = [.slice A0p p0.length c0p, .slice A1p p1.length c1p, undef, undef, getL l' 4, .int .i64 x48, .slice A0p p0.length c0p, .int .i64 (p0.length : Int), .slice A1p p1.length c1p, .int .i64 (p1.length : Int), .bool ((p0.length : Int) != (p1.length : Int)), getL l' 11, getL l' 12, getL l' 13, getL l' 14, getL l' 15, getL l' 16, getL l' 17, getL l' 18, getL l' 19, getL l' 20, getL l' 21, getL l' 22, getL l' 23, getL l' 24, getL l' 25] ∧ Hp sb s F0 s' []) ((((p0.length : Int)) - (0)).toNat + 2) ⟨0, H, rfl, hH⟩ ?_
      rintro kf l' s59 ⟨x48, H, hl, hH⟩ K59 hK59
      generalize getL l' 4 = j4, getL l' 11 = j11, getL l' 12 = j12, getL l' 13 = j13, getL l' 14 = j14, getL l' 15 = j15, getL l' 16 = j16, getL l' 17 = j17, getL l' 18 = j18, getL l' 19 = j19, getL l' 20 = j20, getL l' 21 = j21, getL l' 22 = j22, getL l' 23 = j23, getL l' 24 = j24, getL l' 25 = j25 at hl
      subst hl
      cases kf with
      | zero => simp [laws_eqIntS.l1] at H
      | succ kf =>
        rw [laws_eqIntS.l1] at H
        refine HT_seq_k ?_
        intro K60 hK60
        refine HT_seq_k ?_
        intro K61 hK61
        refine HT_region ?_
        refine HL_cons rfl ?_
        refine o_move ?_
        try dsimp only [putL, setL, evL, getL]
        refine HL_cons rfl ?_
        refine o_move ?_
        try dsimp only [putL, setL, evL, getL]
        refine HL_cons rfl ?_
        refine o_len rfl Try.underlying22 ?_
        try dsimp only [putL, setL, evL, getL]
        refine HL_cons rfl ?_
        refine o_bin rfl rfl rfl ?_
        try dsimp only [putL, setL, evL, getL]
        refine HL_nil ?_
        refine hK61 _ _ ?_
        rcases Bool.eq_false_or_eq_true (decide (x48 < (p0.length : Int))) with hb62 | hb62
        · replace H := iteT hb62 H
          refine HT_true (congrArg Value.bool hb62) ?_
          refine HT_skip ?_
          refine hK60 _ _ ?_
          refine HT_seq_k ?_
          intro K63 hK63
          refine HT_block ?_
          refine HT_seq_k ?_
          intro K64 hK64
          refine HK_draw (fun s' => Gro s59 s') 10 hMix ?_
          have hR := Gro.refl s59
          have hH0 := hH
          refine HK_readP 0 (v := .slice A0p p0.length c0p) rfl (by kernel_rfl) (fun c l s h => hQp c l s h) rfl (fun s' K hK => ?_) rfl rfl (fun _ => hR) ?_
          · refine o_move ?_
            exact hK
          try dsimp only [putL, setL, evL, getL]
          refine HK_readP 1 (v := .int .i64 x48) rfl (by kernel_rfl) (fun c l s h => hQp c l s h) rfl (fun s' K hK => ?_) rfl rfl (fun _ => hR) ?_
          · refine o_move ?_
            exact hK
          try dsimp only [putL, setL, evL, getL]
          obtain ⟨u65, hu65, H⟩ := headE H
          obtain ⟨b65, o65, cs65, hr65, hh65, hel65⟩ := Rd.elb HRp0 hu65
          obtain rfl := hr65
          refine HK_readP 2 (v := .pointer (some ⟨b65, o65, none⟩)) rfl (by kernel_rfl) (fun c l s h => hQp c l s h) rfl (fun s' K hK => ?_) rfl rfl (fun _ => hR) ?_
          · refine hel65 s' rfl rfl Try.underlying22 tI3 ?_
            exact hK
          try dsimp only [putL, setL, evL, getL]
          refine HK_read 3 (v := .int .i64 u65) rfl (by kernel_rfl) (fun c l s h => hQp c l s h) rfl (fun s' hR' K hK => ?_) rfl rfl hR ?_
          · refine o_load' rfl Try.underlying3 rfl ((hh65 (hH0.bs.mono.trans hR'.mono)) 0 _ rfl) ?_
            exact hK
          try dsimp only [putL, setL, evL, getL]
          refine HK_readP 4 (v := .slice A1p p1.length c1p) rfl (by kernel_rfl) (fun c l s h => hQp c l s h) rfl (fun s' K hK => ?_) rfl rfl (fun _ => hR) ?_
          · refine o_move ?_
            exact hK
          try dsimp only [putL, setL, evL, getL]
          refine HK_readP 5 (v := .int .i64 x48) rfl (by kernel_rfl) (fun c l s h => hQp c l s h) rfl (fun s' K hK => ?_) rfl rfl (fun _ => hR) ?_
          · refine o_move ?_
            exact hK
          try dsimp only [putL, setL, evL, getL]
          obtain ⟨u66, hu66, H⟩ := headE H
          obtain ⟨b66, o66, cs66, hr66, hh66, hel66⟩ := Rd.elb HRp1 hu66
          obtain rfl := hr66
          refine HK_readP 6 (v := .pointer (some ⟨b66, o66, none⟩)) rfl (by kernel_rfl) (fun c l s h => hQp c l s h) rfl (fun s' K hK => ?_) rfl rfl (fun _ => hR) ?_
          · refine hel66 s' rfl rfl Try.underlying22 tI3 ?_
            exact hK
          try dsimp only [putL, setL, evL, getL]
          refine HK_read 7 (v := .int .i64 u66) rfl (by kernel_rfl) (fun c l s h => hQp c l s h) rfl (fun s' hR' K hK => ?_) rfl rfl hR ?_
          · refine o_load' rfl Try.underlying3 rfl ((hh66 (hH0.bs.mono.trans hR'.mono)) 0 _ rfl) ?_
            exact hK
          try dsimp only [putL, setL, evL, getL]
          refine HK_readP 8 (v := .bool (u65 != u66)) rfl (by kernel_rfl) (fun c l s h => hQp c l s h) rfl (fun s' K hK => ?_) rfl rfl (fun _ => hR) ?_
          · refine o_bin rfl rfl rfl ?_
            exact hK
          try dsimp only [putL, setL, evL, getL]
          refine HK_done (fun _ => hR) (by kernel_rfl) ?_
          refine hK64 _ _ ?_
          rcases Bool.eq_false_or_eq_true (u65 != u66) with hb67 | hb67
          · replace H := iteT hb67 H
            refine HT_true (congrArg Value.bool hb67) ?_
            refine HT_seq_k ?_
            intro K68 hK68
            refine HT_region ?_
            refine HL_cons rfl ?_
            refine o_assign ?_
            try dsimp only [putL, setL, evL, getL]
            refine HL_nil ?_
            refine hK68 _ _ ?_
            refine HT_ret ?_
            replace H := escH (fun z hz => hG8 _ hz) H
            obtain rfl := Option.some.inj (show some _ = some r from H)
            exact hQr _ _ [.bool false] ⟨rfl, trivial⟩ ⟨rfl, hH⟩
          · replace H := iteF hb67 H
            refine HT_false (congrArg Value.bool hb67) ?_
            refine HT_skip ?_
            refine hK63 _ _ ?_
            refine HT_region ?_
            refine HL_cons rfl ?_
            refine o_move ?_
            try dsimp only [putL, setL, evL, getL]
            refine HL_cons rfl ?_
            refine o_bin rfl rfl rfl ?_
            try dsimp only [putL, setL, evL, getL]
            refine HL_cons rfl ?_
            refine o_assign ?_
            try dsimp only [putL, setL, evL, getL]
            refine HL_nil ?_
            exact hK59 _ _ ⟨kf, Nat.lt_succ_self kf, IntKind.i64.wrap (x48 + 1), H, rfl, hH⟩
        · replace H := iteF hb62 H
          refine HT_false (congrArg Value.bool hb62) ?_
          refine HT_exit ?_
          exact hK8 _ _ ⟨H, rfl, hH⟩
    · rintro l' s69 ⟨H, hl, hH⟩
      generalize getL l' 4 = j4, getL l' 5 = j5, getL l' 11 = j11, getL l' 12 = j12, getL l' 13 = j13, getL l' 14 = j14, getL l' 15 = j15, getL l' 16 = j16, getL l' 17 = j17, getL l' 18 = j18, getL l' 19 = j19, getL l' 20 = j20, getL l' 21 = j21, getL l' 22 = j22, getL l' 23 = j23, getL l' 24 = j24, getL l' 25 = j25 at hl
      subst hl
      replace H := hG8 _ H
      try dsimp only at H
      refine hK6 _ _ ?_
      refine HT_seq_k ?_
      intro K70 hK70
      refine HT_region ?_
      refine HL_cons rfl ?_
      refine o_assign ?_
      try dsimp only [putL, setL, evL, getL]
      refine HL_nil ?_
      refine hK70 _ _ ?_
      refine HT_ret ?_
      obtain rfl := Option.some.inj (show some _ = some r from H)
      exact hQr _ _ [.bool true] ⟨rfl, trivial⟩ ⟨rfl, hH⟩
def laws_markIntS.l1 (p0 : List (Int)) : Nat → (List (Int)) → Int → Int → Option (Int × (List (Int)))
  | 0, _, _, _ => none
  | kf + 1, x42, x43, x44 => if (decide (x44 < (p0.length : Int))) = true then ((rd? x42 x44).bind fun u61 => (st? x42 x44 x43).bind fun x62 => laws_markIntS.l1 p0 kf x62 (IntKind.i64.wrap (x43 + 1)) (IntKind.i64.wrap (x44 + 1))) else (some (x43, x42))
def laws_markIntS.f (p0 : List (Int)) (p1 : Int) : Option (Int × (List (Int))) := (laws_markIntS.l1 p0 ((((p0.length : Int)) - (0)).toNat + 2) p0 p1 0).bind fun (o : Int × (List (Int))) => match o with | (x33, x34) => (some (x33, x34))
def laws_markIntS.post (sb s : St) (F0 : Fp) (A0p : Option Addr) (c0p : Nat) (p0 : List (Int)) (r : Int × (List (Int))) : Value → St → Prop := fun v s' => v = .int .i64 r.1 ∧ Hp sb s F0 s' [Ck.ol OI 3 A0p c0p r.2] ∧ r.2.length = p0.length
set_option maxRecDepth 100000 in
set_option maxHeartbeats 4000000 in
theorem laws_markIntS.ok (sb s : St) (F0 : Fp) (A0p : Option Addr) (c0p : Nat) (p0 : List (Int)) (p1 : Int) (hH : Hp sb s F0 s [Ck.ol OI 3 A0p c0p p0]) (r : Int × (List (Int))) (H : laws_markIntS.f p0 p1 = some r) : GCall Try.prog 24 #[.slice A0p p0.length c0p, .int .i64 p1] s (laws_markIntS.post sb s F0 A0p c0p p0 r) := by
  refine GCall_ofk [.tmp 4] [.slice A0p p0.length c0p, .int .i64 p1, undef, undef, undef, undef, undef, undef, undef, undef, undef, undef, undef, undef, undef, undef, undef, undef, undef] Try.func24 rfl rfl rfl ?_
  intro w Q hQr hQn hQp
  replace H := topE H
  unfold laws_markIntS.f at H
  refine HT_seq_k ?_
  intro K1 hK1
  refine HT_region ?_
  refine HL_cons rfl ?_
  refine o_assign ?_
  try dsimp only [putL, setL, evL, getL]
  refine HL_nil ?_
  refine hK1 _ _ ?_
  refine HT_seq_k ?_
  intro K2 hK2
  refine HT_seq_k ?_
  intro K3 hK3
  refine HT_region ?_
  refine HL_cons rfl ?_
  refine o_assign ?_
  try dsimp only [putL, setL, evL, getL]
  refine HL_nil ?_
  refine hK3 _ _ ?_
  refine joinH H fun G4 hG4 H => ?_
  refine HT_toK (fun l' s' => ∃ (x33 : Int) (x34 : List (Int)), G4 (x33, x34) = some r ∧ l' = [.slice A0p p0.length c0p, .int .i64 x33, undef, undef, .int .i64 0, getL l' 5, getL l' 6, getL l' 7, getL l' 8, getL l' 9, getL l' 10, getL l' 11, getL l' 12, getL l' 13, getL l' 14, getL l' 15, getL l' 16, getL l' 17, undef] ∧ Hp sb s F0 s' [Ck.ol OI 3 A0p c0p x34] ∧ x34.length = p0.length) ?_ ?_
  · intro K4 hK4
    refine HT_block ?_
    refine HT_loopK (fun kf l' s' => ∃ (x42 : List (Int)) (x43 : Int) (x44 : Int), (laws_markIntS.l1 p0 kf x42 x43 x44).bind G4 = some r ∧ l' = [.slice A0p p0.length c0p, .int .i64 x43, undef, undef, .int .i64 0, .int .i64 x44, getL l' 6, getL l' 7, getL l' 8, getL l' 9, getL l' 10, getL l' 11, getL l' 12, getL l' 13, getL l' 14, getL l' 15, getL l' 16, getL l' 17, undef] ∧ Hp sb s F0 s' [Ck.ol OI 3 A0p c0p x42] ∧ x42.length = p0.length) ((((p0.length : Int)) - (0)).toNat + 2) ⟨p0, p1, 0, H, rfl, hH, rfl⟩ ?_
    rintro kf l' s55 ⟨x42, x43, x44, H, hl, hH, hl42⟩ K55 hK55
    generalize getL l' 6 = j6, getL l' 7 = j7, getL l' 8 = j8, getL l' 9 = j9, getL l' 10 = j10, getL l' 11 = j11, getL l' 12 = j12, getL l' 13 = j13, getL l' 14 = j14, getL l' 15 = j15, getL l' 16 = j16, getL l' 17 = j17 at hl
    subst hl
    cases kf with
    | zero => simp [laws_markIntS.l1] at H
    | succ kf =>
      rw [laws_markIntS.l1] at H
      refine HT_seq_k ?_
      intro K56 hK56
      refine HT_seq_k ?_
      intro K57 hK57
      refine HT_region ?_
      refine HL_cons rfl ?_
      refine o_move ?_
      try dsimp only [putL, setL, evL, getL]
      refine HL_cons rfl ?_
      refine o_move ?_
      try dsimp only [putL, setL, evL, getL]
      refine HL_cons rfl ?_
      refine o_len rfl Try.underlying22 ?_
      try dsimp only [putL, setL, evL, getL]
      refine HL_cons rfl ?_
      refine o_bin rfl rfl rfl ?_
      try dsimp only [putL, setL, evL, getL]
      refine HL_nil ?_
      refine hK57 _ _ ?_
      rcases Bool.eq_false_or_eq_true (decide (x44 < (p0.length : Int))) with hb58 | hb58
      · replace H := iteT hb58 H
        refine HT_true (congrArg Value.bool hb58) ?_
        refine HT_skip ?_
        refine hK56 _ _ ?_
        refine HT_seq_k ?_
        intro K59 hK59
        refine HT_block ?_
        refine HT_seq_k ?_
        intro K60 hK60
        refine HT_region ?_
        refine HL_cons rfl ?_
        refine o_move ?_
        try dsimp only [putL, setL, evL, getL]
        refine HL_cons rfl ?_
        refine o_move ?_
        try dsimp only [putL, setL, evL, getL]
        refine HL_cons rfl ?_
        refine o_move ?_
        try dsimp only [putL, setL, evL, getL]
        obtain ⟨u61, hu61, H⟩ := headE H
        obtain ⟨b61, o61, cs61, hA61, hr61, hh61, hel61⟩ := hH.elo 0 rfl hu61
        obtain rfl := hr61
        refine HL_cons rfl ?_
        refine hel61 s55 (sliceLen hl42) rfl Try.underlying22 tI3 ?_
        try dsimp only [putL, setL, evL, getL]
        obtain ⟨x62, hx62, H⟩ := headE H
        refine HL_cons rfl ?_
        refine o_setF (vs := [.int .i64 x43]) (u := x43) hH 0 rfl rfl rfl rfl rfl tI3 hA61 hx62 (Ent.own (Ent.flat rfl)) ?_
        intro s62 hH'
        have hl62 := (st?_len hx62).trans hl42
        replace hH : Hp sb s F0 s62 [Ck.ol OI 3 A0p c0p x62] := hH'
        clear hH'
        try dsimp only [putL, setL, evL, getL]
        refine HL_nil ?_
        refine hK60 _ _ ?_
        refine HT_region ?_
        refine HL_cons rfl ?_
        refine o_move ?_
        try dsimp only [putL, setL, evL, getL]
        refine HL_cons rfl ?_
        refine o_bin rfl rfl rfl ?_
        try dsimp only [putL, setL, evL, getL]
        refine HL_cons rfl ?_
        refine o_assign ?_
        try dsimp only [putL, setL, evL, getL]
        refine HL_nil ?_
        refine hK59 _ _ ?_
        refine HT_region ?_
        refine HL_cons rfl ?_
        refine o_move ?_
        try dsimp only [putL, setL, evL, getL]
        refine HL_cons rfl ?_
        refine o_bin rfl rfl rfl ?_
        try dsimp only [putL, setL, evL, getL]
        refine HL_cons rfl ?_
        refine o_assign ?_
        try dsimp only [putL, setL, evL, getL]
        refine HL_nil ?_
        exact hK55 _ _ ⟨kf, Nat.lt_succ_self kf, x62, IntKind.i64.wrap (x43 + 1), IntKind.i64.wrap (x44 + 1), H, rfl, hH, hl62⟩
      · replace H := iteF hb58 H
        refine HT_false (congrArg Value.bool hb58) ?_
        refine HT_exit ?_
        exact hK4 _ _ ⟨x43, x42, H, rfl, hH, hl42⟩
  · rintro l' s63 ⟨x33, x34, H, hl, hH, hl34⟩
    generalize getL l' 5 = j5, getL l' 6 = j6, getL l' 7 = j7, getL l' 8 = j8, getL l' 9 = j9, getL l' 10 = j10, getL l' 11 = j11, getL l' 12 = j12, getL l' 13 = j13, getL l' 14 = j14, getL l' 15 = j15, getL l' 16 = j16, getL l' 17 = j17 at hl
    subst hl
    replace H := hG4 _ H
    try dsimp only at H
    refine hK2 _ _ ?_
    refine HT_seq_k ?_
    intro K64 hK64
    refine HT_region ?_
    refine HL_cons rfl ?_
    refine o_move ?_
    try dsimp only [putL, setL, evL, getL]
    refine HL_cons rfl ?_
    refine o_assign ?_
    try dsimp only [putL, setL, evL, getL]
    refine HL_nil ?_
    refine hK64 _ _ ?_
    refine HT_ret ?_
    obtain rfl := Option.some.inj (show some _ = some r from H)
    exact hQr _ _ [.int .i64 x33] ⟨rfl, trivial⟩ ⟨rfl, hH, hl34⟩
def laws_heldIntS.l1 (p0 : List (Int)) : Nat → Int → Int → Option (Lo Int Int)
  | 0, _, _ => none
  | kf + 1, x47, x48 => if (decide (x48 < (p0.length : Int))) = true then ((rd? p0 x48).bind fun u67 => if (u67 != x47) = true then ((some (-1)).bind fun z => some (Lo.ret z)) else (laws_heldIntS.l1 p0 kf (IntKind.i64.wrap (x47 + 1)) (IntKind.i64.wrap (x48 + 1)))) else (some (Lo.go x47))
def laws_heldIntS.f (p0 : List (Int)) (p1 : Int) : Option Int := (laws_heldIntS.l1 p0 ((((p0.length : Int)) - (0)).toNat + 2) p1 0).bind fun (o : Lo Int Int) => match o with | .go x37 => (some x37) | .ret z => some z
def laws_heldIntS.post (sb s : St) (F0 : Fp) (r : Int) : Value → St → Prop := fun v s' => v = .int .i64 r ∧ Hp sb s F0 s' []
set_option maxRecDepth 100000 in
set_option maxHeartbeats 4000000 in
theorem laws_heldIntS.ok (sb s : St) (F0 : Fp) (A0p : Option Addr) (c0p : Nat) (p0 : List (Int)) (p1 : Int) (HRp0 : Rd KI sb A0p c0p p0) (hH : Hp sb s F0 s []) (r : Int) (H : laws_heldIntS.f p0 p1 = some r) : GCall Try.prog 25 #[.slice A0p p0.length c0p, .int .i64 p1] s (laws_heldIntS.post sb s F0 r) := by
  refine GCall_ofk [.tmp 4] [.slice A0p p0.length c0p, .int .i64 p1, undef, undef, undef, undef, undef, undef, undef, undef, undef, undef, undef, undef, undef, undef, undef, undef, undef, undef, undef] Try.func25 rfl rfl rfl ?_
  intro w Q hQr hQn hQp
  replace H := topE H
  unfold laws_heldIntS.f at H
  refine HT_seq_k ?_
  intro K1 hK1
  refine HT_region ?_
  refine HL_cons rfl ?_
  refine o_assign ?_
  try dsimp only [putL, setL, evL, getL]
  refine HL_nil ?_
  refine hK1 _ _ ?_
  refine HT_seq_k ?_
  intro K2 hK2
  refine HT_seq_k ?_
  intro K3 hK3
  refine HT_region ?_
  refine HL_cons rfl ?_
  refine o_assign ?_
  try dsimp only [putL, setL, evL, getL]
  refine HL_nil ?_
  refine hK3 _ _ ?_
  refine joinH H fun G4 hG4 H => ?_
  refine HT_toK (fun l' s' => ∃ (x37 : Int), G4 (.go x37) = some r ∧ l' = [.slice A0p p0.length c0p, .int .i64 x37, undef, undef, getL l' 4, getL l' 5, getL l' 6, getL l' 7, getL l' 8, getL l' 9, getL l' 10, getL l' 11, getL l' 12, getL l' 13, getL l' 14, getL l' 15, getL l' 16, getL l' 17, getL l' 18, getL l' 19, undef] ∧ Hp sb s F0 s' []) ?_ ?_
  · intro K4 hK4
    refine HT_block ?_
    refine HT_loopK (fun kf l' s' => ∃ (x47 : Int) (x48 : Int), (laws_heldIntS.l1 p0 kf x47 x48).bind G4 = some r ∧ l' = [.slice A0p p0.length c0p, .int .i64 x47, undef, undef, getL l' 4, .int .i64 x48, getL l' 6, getL l' 7, getL l' 8, getL l' 9, getL l' 10, getL l' 11, getL l' 12, getL l' 13, getL l' 14, getL l' 15, getL l' 16, getL l' 17, getL l' 18, getL l' 19, undef] ∧ Hp sb s F0 s' []) ((((p0.length : Int)) - (0)).toNat + 2) ⟨p1, 0, H, rfl, hH⟩ ?_
    rintro kf l' s60 ⟨x47, x48, H, hl, hH⟩ K60 hK60
    generalize getL l' 4 = j4, getL l' 6 = j6, getL l' 7 = j7, getL l' 8 = j8, getL l' 9 = j9, getL l' 10 = j10, getL l' 11 = j11, getL l' 12 = j12, getL l' 13 = j13, getL l' 14 = j14, getL l' 15 = j15, getL l' 16 = j16, getL l' 17 = j17, getL l' 18 = j18, getL l' 19 = j19 at hl
    subst hl
    cases kf with
    | zero => simp [laws_heldIntS.l1] at H
    | succ kf =>
      rw [laws_heldIntS.l1] at H
      refine HT_seq_k ?_
      intro K61 hK61
      refine HT_seq_k ?_
      intro K62 hK62
      refine HT_region ?_
      refine HL_cons rfl ?_
      refine o_move ?_
      try dsimp only [putL, setL, evL, getL]
      refine HL_cons rfl ?_
      refine o_move ?_
      try dsimp only [putL, setL, evL, getL]
      refine HL_cons rfl ?_
      refine o_len rfl Try.underlying22 ?_
      try dsimp only [putL, setL, evL, getL]
      refine HL_cons rfl ?_
      refine o_bin rfl rfl rfl ?_
      try dsimp only [putL, setL, evL, getL]
      refine HL_nil ?_
      refine hK62 _ _ ?_
      rcases Bool.eq_false_or_eq_true (decide (x48 < (p0.length : Int))) with hb63 | hb63
      · replace H := iteT hb63 H
        refine HT_true (congrArg Value.bool hb63) ?_
        refine HT_skip ?_
        refine hK61 _ _ ?_
        refine HT_seq_k ?_
        intro K64 hK64
        refine HT_block ?_
        refine HT_seq_k ?_
        intro K65 hK65
        refine HT_seq_k ?_
        intro K66 hK66
        refine HT_region ?_
        refine HL_cons rfl ?_
        refine o_move ?_
        try dsimp only [putL, setL, evL, getL]
        refine HL_cons rfl ?_
        refine o_move ?_
        try dsimp only [putL, setL, evL, getL]
        obtain ⟨u67, hu67, H⟩ := headE H
        obtain ⟨b67, o67, cs67, hr67, hh67, hel67⟩ := Rd.elb HRp0 hu67
        obtain rfl := hr67
        refine HL_cons rfl ?_
        refine hel67 s60 rfl rfl Try.underlying22 tI3 ?_
        try dsimp only [putL, setL, evL, getL]
        refine HL_cons rfl ?_
        refine o_load' rfl Try.underlying3 rfl ((hh67 hH.bs.mono) 0 _ rfl) ?_
        try dsimp only [putL, setL, evL, getL]
        refine HL_cons rfl ?_
        refine o_move ?_
        try dsimp only [putL, setL, evL, getL]
        refine HL_cons rfl ?_
        refine o_bin rfl rfl rfl ?_
        try dsimp only [putL, setL, evL, getL]
        refine HL_nil ?_
        refine hK66 _ _ ?_
        rcases Bool.eq_false_or_eq_true (u67 != x47) with hb68 | hb68
        · replace H := iteT hb68 H
          refine HT_true (congrArg Value.bool hb68) ?_
          refine HT_seq_k ?_
          intro K69 hK69
          refine HT_region ?_
          refine HL_cons rfl ?_
          refine o_assign ?_
          try dsimp only [putL, setL, evL, getL]
          refine HL_nil ?_
          refine hK69 _ _ ?_
          refine HT_ret ?_
          replace H := escH (fun z hz => hG4 _ hz) H
          obtain rfl := Option.some.inj (show some _ = some r from H)
          exact hQr _ _ [.int .i64 (-1)] ⟨rfl, trivial⟩ ⟨rfl, hH⟩
        · replace H := iteF hb68 H
          refine HT_false (congrArg Value.bool hb68) ?_
          refine HT_skip ?_
          refine hK65 _ _ ?_
          refine HT_region ?_
          refine HL_cons rfl ?_
          refine o_move ?_
          try dsimp only [putL, setL, evL, getL]
          refine HL_cons rfl ?_
          refine o_bin rfl rfl rfl ?_
          try dsimp only [putL, setL, evL, getL]
          refine HL_cons rfl ?_
          refine o_assign ?_
          try dsimp only [putL, setL, evL, getL]
          refine HL_nil ?_
          refine hK64 _ _ ?_
          refine HT_region ?_
          refine HL_cons rfl ?_
          refine o_move ?_
          try dsimp only [putL, setL, evL, getL]
          refine HL_cons rfl ?_
          refine o_bin rfl rfl rfl ?_
          try dsimp only [putL, setL, evL, getL]
          refine HL_cons rfl ?_
          refine o_assign ?_
          try dsimp only [putL, setL, evL, getL]
          refine HL_nil ?_
          exact hK60 _ _ ⟨kf, Nat.lt_succ_self kf, IntKind.i64.wrap (x47 + 1), IntKind.i64.wrap (x48 + 1), H, rfl, hH⟩
      · replace H := iteF hb63 H
        refine HT_false (congrArg Value.bool hb63) ?_
        refine HT_exit ?_
        exact hK4 _ _ ⟨x47, H, rfl, hH⟩
  · rintro l' s70 ⟨x37, H, hl, hH⟩
    generalize getL l' 4 = j4, getL l' 5 = j5, getL l' 6 = j6, getL l' 7 = j7, getL l' 8 = j8, getL l' 9 = j9, getL l' 10 = j10, getL l' 11 = j11, getL l' 12 = j12, getL l' 13 = j13, getL l' 14 = j14, getL l' 15 = j15, getL l' 16 = j16, getL l' 17 = j17, getL l' 18 = j18, getL l' 19 = j19 at hl
    subst hl
    replace H := hG4 _ H
    try dsimp only at H
    refine hK2 _ _ ?_
    refine HT_seq_k ?_
    intro K71 hK71
    refine HT_region ?_
    refine HL_cons rfl ?_
    refine o_move ?_
    try dsimp only [putL, setL, evL, getL]
    refine HL_cons rfl ?_
    refine o_assign ?_
    try dsimp only [putL, setL, evL, getL]
    refine HL_nil ?_
    refine hK71 _ _ ?_
    refine HT_ret ?_
    obtain rfl := Option.some.inj (show some _ = some r from H)
    exact hQr _ _ [.int .i64 x37] ⟨rfl, trivial⟩ ⟨rfl, hH⟩
def laws_FnExactNearEnds.f (p0 : List (Int)) (p1 : List (Int)) (p2 : Int) : Option Bool := if (decide ((p0.length : Int) > 1048576)) = true then (some true) else (if (decide ((p1.length : Int) > 1048576)) = true then (some true) else ((laws_toIntS.f p0).bind fun u11 => (laws_toIntS.f p1).bind fun u13 => (spec_NearEnds.f u11 u13 p2).bind fun u15 => (laws_toIntS.f p0).bind fun u18 => (laws_toIntS.f p1).bind fun u21 => (impl_NearEnds.f u18 u21 p2).bind fun u24 => ((laws_eqIntS.f u24.1 u15.1).bind fun u41 => if (!u41) = true then (some true) else (some (u24.2 != u15.2))).bind fun (o : Bool) => match o with | x40 => (if x40 = true then (some false) else ((laws_toIntS.f p0).bind fun u48 => (laws_eqIntS.f u18 u48).bind fun u50 => if (!u50) = true then (some false) else ((laws_toIntS.f p1).bind fun u55 => (laws_eqIntS.f u21 u55).bind fun u57 => if (!u57) = true then (some false) else ((laws_markIntS.f u18 1).bind fun u62 => (laws_markIntS.f u21 u62.1).bind fun u65 => (if (decide (u65.1 < 0)) = true then (some true) else ((laws_eqIntS.f u24.1 u15.1).bind fun u86 => if (!u86) = true then (some true) else (some (u24.2 != u15.2)))).bind fun (o : Bool) => match o with | x84 => (if x84 = true then (some false) else ((laws_markIntS.f u24.1 1).bind fun u93 => (laws_heldIntS.f u93.2 1).bind fun u97 => if (decide (u97 < 0)) = true then (some false) else (if (u97 != u93.1) = true then (some false) else ((laws_toIntS.f p0).bind fun u107 => (laws_toIntS.f p1).bind fun u109 => (impl_NearEnds.f u107 u109 p2).bind fun u111 => ((laws_eqIntS.f u111.1 u15.1).bind fun u128 => if (!u128) = true then (some true) else (some (u111.2 != u15.2))).bind fun (o : Bool) => match o with | x127 => (if x127 = true then (some false) else ((laws_heldIntS.f u93.2 1).bind fun u135 => if (decide (u135 < 0)) = true then (some false) else (if (u135 != u93.1) = true then (some false) else (some true))))))))))))))
def laws_FnExactNearEnds.post (sb s : St) (F0 : Fp) (r : Bool) : Value → St → Prop := fun v s' => v = .bool r ∧ Hp sb s F0 s' []
set_option maxRecDepth 100000 in
set_option maxHeartbeats 4000000 in
theorem laws_FnExactNearEnds.ok (sb s : St) (F0 : Fp) (A0p : Option Addr) (c0p : Nat) (p0 : List (Int)) (A1p : Option Addr) (c1p : Nat) (p1 : List (Int)) (p2 : Int) (HRp0 : Rd KI sb A0p c0p p0) (HRp1 : Rd KI sb A1p c1p p1) (hH : Hp sb s F0 s []) (r : Bool) (H : laws_FnExactNearEnds.f p0 p1 p2 = some r) : GCall Try.prog 6 #[.slice A0p p0.length c0p, .slice A1p p1.length c1p, .int .i64 p2] s (laws_FnExactNearEnds.post sb s F0 r) := by
  refine GCall_ofk [.tmp 6] [.slice A0p p0.length c0p, .slice A1p p1.length c1p, .int .i64 p2, undef, undef, undef, undef, undef, undef, undef, undef, undef, undef, undef, undef, undef, undef, undef, undef, undef, undef, undef, undef, undef, undef, undef, undef, undef, undef, undef, undef, undef, undef, undef, undef, undef, undef, undef, undef, undef, undef, undef, undef, undef, undef, undef, undef, undef, undef, undef, undef, undef, undef, undef, undef, undef, undef, undef, undef, undef, undef, undef, undef, undef, undef, undef, undef, undef, undef, undef, undef, undef, undef, undef, undef, undef, undef, undef, undef, undef, undef, undef, undef, undef, undef, undef, undef, undef, undef, undef, undef, undef, undef, undef, undef, undef, undef, undef, undef, undef, undef, undef, undef, undef, undef, undef, undef, undef, undef, undef, undef, undef, undef, undef, undef, undef, undef, undef, undef] Try.func6 rfl rfl rfl ?_
  intro w Q hQr hQn hQp
  replace H := topE H
  unfold laws_FnExactNearEnds.f at H
  refine HT_seq_k ?_
  intro K1 hK1
  refine HT_region ?_
  refine HL_cons rfl ?_
  refine o_assign ?_
  try dsimp only [putL, setL, evL, getL]
  refine HL_nil ?_
  refine hK1 _ _ ?_
  refine HT_seq_k ?_
  intro K2 hK2
  refine HT_seq_k ?_
  intro K3 hK3
  refine HT_region ?_
  refine HL_cons rfl ?_
  refine o_move ?_
  try dsimp only [putL, setL, evL, getL]
  refine HL_cons rfl ?_
  refine o_len rfl Try.underlying22 ?_
  try dsimp only [putL, setL, evL, getL]
  refine HL_cons rfl ?_
  refine o_bin rfl rfl rfl ?_
  try dsimp only [putL, setL, evL, getL]
  refine HL_nil ?_
  refine hK3 _ _ ?_
  rcases Bool.eq_false_or_eq_true (decide ((p0.length : Int) > 1048576)) with hb4 | hb4
  · replace H := iteT hb4 H
    refine HT_true (congrArg Value.bool hb4) ?_
    refine HT_seq_k ?_
    intro K5 hK5
    refine HT_region ?_
    refine HL_cons rfl ?_
    refine o_assign ?_
    try dsimp only [putL, setL, evL, getL]
    refine HL_nil ?_
    refine hK5 _ _ ?_
    refine HT_ret ?_
    obtain rfl := Option.some.inj (show some _ = some r from H)
    exact hQr _ _ [.bool true] ⟨rfl, trivial⟩ ⟨rfl, hH⟩
  · replace H := iteF hb4 H
    refine HT_false (congrArg Value.bool hb4) ?_
    refine HT_skip ?_
    refine hK2 _ _ ?_
    refine HT_seq_k ?_
    intro K6 hK6
    refine HT_seq_k ?_
    intro K7 hK7
    refine HT_region ?_
    refine HL_cons rfl ?_
    refine o_move ?_
    try dsimp only [putL, setL, evL, getL]
    refine HL_cons rfl ?_
    refine o_len rfl Try.underlying22 ?_
    try dsimp only [putL, setL, evL, getL]
    refine HL_cons rfl ?_
    refine o_bin rfl rfl rfl ?_
    try dsimp only [putL, setL, evL, getL]
    refine HL_nil ?_
    refine hK7 _ _ ?_
    rcases Bool.eq_false_or_eq_true (decide ((p1.length : Int) > 1048576)) with hb8 | hb8
    · replace H := iteT hb8 H
      refine HT_true (congrArg Value.bool hb8) ?_
      refine HT_seq_k ?_
      intro K9 hK9
      refine HT_region ?_
      refine HL_cons rfl ?_
      refine o_assign ?_
      try dsimp only [putL, setL, evL, getL]
      refine HL_nil ?_
      refine hK9 _ _ ?_
      refine HT_ret ?_
      obtain rfl := Option.some.inj (show some _ = some r from H)
      exact hQr _ _ [.bool true] ⟨rfl, trivial⟩ ⟨rfl, hH⟩
    · replace H := iteF hb8 H
      refine HT_false (congrArg Value.bool hb8) ?_
      refine HT_skip ?_
      refine hK6 _ _ ?_
      refine HT_seq_k ?_
      intro K10 hK10
      refine HT_region ?_
      refine HL_cons rfl ?_
      refine o_move ?_
      try dsimp only [putL, setL, evL, getL]
      obtain ⟨u11, hu11, H⟩ := headE H
      refine HL_cons rfl ?_
      refine o_call (args := #[.slice A0p p0.length c0p]) Try.func15 rfl rfl rfl (laws_toIntS.ok sb s no A0p c0p p0 HRp0 (Hp.own hH.bs) _ hu11) ?_
      rintro _ s11 ⟨A12, c12, rfl, hD⟩
      replace hH := hH.back0 hD (Up.refl _ _ _)
      clear hD
      dsimp only [addC, setC, rmC, selC, getC] at hH
      try dsimp only [putL, setL, evL, getL]
      refine HL_cons rfl ?_
      refine o_move ?_
      try dsimp only [putL, setL, evL, getL]
      obtain ⟨u13, hu13, H⟩ := headE H
      refine HL_cons rfl ?_
      refine o_call (args := #[.slice A1p p1.length c1p]) Try.func15 rfl rfl rfl (laws_toIntS.ok sb s11 no A1p c1p p1 HRp1 (Hp.own hH.bs) _ hu13) ?_
      rintro _ s13 ⟨A14, c14, rfl, hD⟩
      replace hH := hH.back0 hD (Up.refl _ _ _)
      clear hD
      dsimp only [addC, setC, rmC, selC, getC] at hH
      try dsimp only [putL, setL, evL, getL]
      refine HL_cons rfl ?_
      refine o_move ?_
      try dsimp only [putL, setL, evL, getL]
      obtain ⟨u15, hu15, H⟩ := headE H
      refine HL_cons rfl ?_
      refine o_call (args := #[.slice A12 u11.length c12, .slice A14 u13.length c14, .int .i64 p2]) Try.func22 rfl rfl rfl (spec_NearEnds.ok s13 s13 no A12 c12 u11 A14 c14 u13 p2 (hH.rd 0 rfl) (hH.rd 1 rfl) (Hp.own (Bs.refl s13)) _ hu15) ?_
      rintro _ s15 ⟨A16, c16, rfl, hD⟩
      replace hH := hH.back0T hD
      clear hD
      dsimp only [addC, setC, rmC, selC, getC] at hH
      try dsimp only [putL, setL, evL, getL]
      refine HL_cons rfl ?_
      refine o_move ?_
      try dsimp only [putL, setL, evL, getL]
      refine HL_cons rfl ?_
      refine o_extract rfl rfl ?_
      try dsimp only [putL, setL, evL, getL]
      refine HL_cons rfl ?_
      refine o_extract rfl rfl ?_
      try dsimp only [putL, setL, evL, getL]
      refine HL_cons rfl ?_
      refine o_assign ?_
      try dsimp only [putL, setL, evL, getL]
      refine HL_cons rfl ?_
      refine o_assign ?_
      try dsimp only [putL, setL, evL, getL]
      refine HL_nil ?_
      refine hK10 _ _ ?_
      refine HT_seq_k ?_
      intro K17 hK17
      refine HT_region ?_
      refine HL_cons rfl ?_
      refine o_move ?_
      try dsimp only [putL, setL, evL, getL]
      obtain ⟨u18, hu18, H⟩ := headE H
      refine HL_cons rfl ?_
      refine o_call (args := #[.slice A0p p0.length c0p]) Try.func15 rfl rfl rfl (laws_toIntS.ok sb s15 no A0p c0p p0 HRp0 (Hp.own hH.bs) _ hu18) ?_
      rintro _ s18 ⟨A19, c19, rfl, hD⟩
      replace hH := hH.back0 hD (Up.refl _ _ _)
      clear hD
      dsimp only [addC, setC, rmC, selC, getC] at hH
      try dsimp only [putL, setL, evL, getL]
      refine HL_cons rfl ?_
      refine o_assign ?_
      try dsimp only [putL, setL, evL, getL]
      refine HL_nil ?_
      refine hK17 _ _ ?_
      refine HT_seq_k ?_
      intro K20 hK20
      refine HT_region ?_
      refine HL_cons rfl ?_
      refine o_move ?_
      try dsimp only [putL, setL, evL, getL]
      obtain ⟨u21, hu21, H⟩ := headE H
      refine HL_cons rfl ?_
      refine o_call (args := #[.slice A1p p1.length c1p]) Try.func15 rfl rfl rfl (laws_toIntS.ok sb s18 no A1p c1p p1 HRp1 (Hp.own hH.bs) _ hu21) ?_
      rintro _ s21 ⟨A22, c22, rfl, hD⟩
      replace hH := hH.back0 hD (Up.refl _ _ _)
      clear hD
      dsimp only [addC, setC, rmC, selC, getC] at hH
      try dsimp only [putL, setL, evL, getL]
      refine HL_cons rfl ?_
      refine o_assign ?_
      try dsimp only [putL, setL, evL, getL]
      refine HL_nil ?_
      refine hK20 _ _ ?_
      refine HT_seq_k ?_
      intro K23 hK23
      refine HT_region ?_
      refine HL_cons rfl ?_
      refine o_move ?_
      try dsimp only [putL, setL, evL, getL]
      refine HL_cons rfl ?_
      refine o_move ?_
      try dsimp only [putL, setL, evL, getL]
      refine HL_cons rfl ?_
      refine o_move ?_
      try dsimp only [putL, setL, evL, getL]
      obtain ⟨u24, hu24, H⟩ := headE H
      refine HL_cons rfl ?_
      refine o_call (args := #[.slice A19 u18.length c19, .slice A22 u21.length c22, .int .i64 p2]) Try.func23 rfl rfl rfl (impl_NearEnds.ok s21 s21 no A19 c19 u18 A22 c22 u21 p2 (hH.rd 3 rfl) (hH.rd 4 rfl) (Hp.own (Bs.refl s21)) _ hu24) ?_
      rintro _ s24 ⟨A25, c25, rfl, hD⟩
      replace hH := hH.back0T hD
      clear hD
      dsimp only [addC, setC, rmC, selC, getC] at hH
      try dsimp only [putL, setL, evL, getL]
      refine HL_cons rfl ?_
      refine o_move ?_
      try dsimp only [putL, setL, evL, getL]
      refine HL_cons rfl ?_
      refine o_extract rfl rfl ?_
      try dsimp only [putL, setL, evL, getL]
      refine HL_cons rfl ?_
      refine o_extract rfl rfl ?_
      try dsimp only [putL, setL, evL, getL]
      refine HL_cons rfl ?_
      refine o_assign ?_
      try dsimp only [putL, setL, evL, getL]
      refine HL_cons rfl ?_
      refine o_assign ?_
      try dsimp only [putL, setL, evL, getL]
      refine HL_nil ?_
      refine hK23 _ _ ?_
      refine HT_seq_k ?_
      intro K36 hK36
      refine joinH H fun G37 hG37 H => ?_
      refine HT_joinK (fun l' s' => ∃ (x40 : Bool), G37 x40 = some r ∧ l' = [.slice A0p p0.length c0p, .slice A1p p1.length c1p, .int .i64 p2, undef, undef, undef, .bool false, .slice A16 u15.1.length c16, .bool u15.2, .slice A19 u18.length c19, .slice A22 u21.length c22, .slice A25 u24.1.length c25, .bool u24.2, undef, undef, undef, undef, undef, .slice A0p p0.length c0p, .int .i64 (p0.length : Int), .bool (decide ((p0.length : Int) > 1048576)), .slice A1p p1.length c1p, .int .i64 (p1.length : Int), .bool (decide ((p1.length : Int) > 1048576)), .tuple #[.slice A16 u15.1.length c16, .bool u15.2], .slice A0p p0.length c0p, .slice A12 u11.length c12, .slice A1p p1.length c1p, .slice A14 u13.length c14, .int .i64 p2, .tuple #[.slice A16 u15.1.length c16, .bool u15.2], .slice A16 u15.1.length c16, .bool u15.2, .slice A0p p0.length c0p, .slice A19 u18.length c19, .slice A1p p1.length c1p, .slice A22 u21.length c22, .tuple #[.slice A25 u24.1.length c25, .bool u24.2], .slice A19 u18.length c19, .slice A22 u21.length c22, .int .i64 p2, .tuple #[.slice A25 u24.1.length c25, .bool u24.2], .slice A25 u24.1.length c25, .bool u24.2, getL l' 44, getL l' 45, getL l' 46, getL l' 47, getL l' 48, getL l' 49, getL l' 50, getL l' 51, .bool x40, undef, undef, undef, undef, undef, undef, undef, undef, undef, undef, undef, undef, undef, undef, undef, undef, undef, undef, undef, undef, undef, undef, undef, undef, undef, undef, undef, undef, undef, undef, undef, undef, undef, undef, undef, undef, undef, undef, undef, undef, undef, undef, undef, undef, undef, undef, undef, undef, undef, undef, undef, undef, undef, undef, undef, undef, undef, undef, undef, undef, undef, undef, undef, undef, undef, undef] ∧ Hp sb s F0 s' [Ck.ol OI 3 A16 c16 u15.1, Ck.ol OI 3 A19 c19 u18, Ck.ol OI 3 A22 c22 u21, Ck.ol OI 3 A25 c25 u24.1]) ?_ ?_
      · intro K37 hK37
        refine HT_region ?_
        refine HL_cons rfl ?_
        refine o_move ?_
        try dsimp only [putL, setL, evL, getL]
        refine HL_cons rfl ?_
        refine o_move ?_
        try dsimp only [putL, setL, evL, getL]
        obtain ⟨u41, hu41, H⟩ := headE H
        refine HL_cons rfl ?_
        refine o_call (args := #[.slice A25 u24.1.length c25, .slice A16 u15.1.length c16]) Try.func17 rfl rfl rfl (laws_eqIntS.ok s24 s24 no A25 c25 u24.1 A16 c16 u15.1 (hH.rd 5 rfl) (hH.rd 2 rfl) (Hp.own (Bs.refl s24)) _ hu41) ?_
        rintro _ s41 ⟨rfl, hD⟩
        replace hH := hH.back0T hD
        clear hD
        dsimp only [addC, setC, rmC, selC, getC] at hH
        try dsimp only [putL, setL, evL, getL]
        refine HL_cons rfl ?_
        refine o_not rfl ?_
        try dsimp only [putL, setL, evL, getL]
        refine HL_cons rfl ?_
        refine o_move ?_
        try dsimp only [putL, setL, evL, getL]
        rcases Bool.eq_false_or_eq_true (!u41) with hb42 | hb42
        · replace H := iteT hb42 H
          refine HL_skip ?_ ?_
          · exact wantF (j := 4) (b := false) (t := 48) (c := !u41) rfl rfl rfl rfl hb42
          try dsimp only [putL, setL, evL, getL]
          refine HL_skip ?_ ?_
          · exact wantF (j := 4) (b := false) (t := 48) (c := !u41) rfl rfl rfl rfl hb42
          try dsimp only [putL, setL, evL, getL]
          refine HL_skip ?_ ?_
          · exact wantF (j := 4) (b := false) (t := 48) (c := !u41) rfl rfl rfl rfl hb42
          try dsimp only [putL, setL, evL, getL]
          refine HL_cons rfl ?_
          refine o_pickT rfl hb42 ?_
          try dsimp only [putL, setL, evL, getL]
          refine HL_nil ?_
          exact hK37 _ _ ⟨true, H, rfl, hH.sel [2, 3, 4, 5] (by decide)⟩
        · replace H := iteF hb42 H
          refine HL_want ?_ ?_
          · exact wantT (j := 4) (b := false) (t := 48) (c := !u41) rfl rfl rfl rfl hb42
          refine o_move ?_
          try dsimp only [putL, setL, evL, getL]
          refine HL_want ?_ ?_
          · exact wantT (j := 4) (b := false) (t := 48) (c := !u41) rfl rfl rfl rfl hb42
          refine o_move ?_
          try dsimp only [putL, setL, evL, getL]
          refine HL_want ?_ ?_
          · exact wantT (j := 4) (b := false) (t := 48) (c := !u41) rfl rfl rfl rfl hb42
          refine o_neb rfl rfl Try.underlying4 ?_
          try dsimp only [putL, setL, evL, getL]
          refine HL_cons rfl ?_
          refine o_pickF rfl hb42 ?_
          try dsimp only [putL, setL, evL, getL]
          refine HL_nil ?_
          exact hK37 _ _ ⟨u24.2 != u15.2, H, rfl, hH.sel [2, 3, 4, 5] (by decide)⟩
      · rintro l' s43 ⟨x40, H, hl, hH⟩
        generalize getL l' 44 = j44, getL l' 45 = j45, getL l' 46 = j46, getL l' 47 = j47, getL l' 48 = j48, getL l' 49 = j49, getL l' 50 = j50, getL l' 51 = j51 at hl
        subst hl
        replace H := hG37 _ H
        try dsimp only at H
        rcases Bool.eq_false_or_eq_true x40 with hb44 | hb44
        · replace H := iteT hb44 H
          refine HT_true (congrArg Value.bool hb44) ?_
          refine HT_seq_k ?_
          intro K45 hK45
          refine HT_region ?_
          refine HL_cons rfl ?_
          refine o_assign ?_
          try dsimp only [putL, setL, evL, getL]
          refine HL_nil ?_
          refine hK45 _ _ ?_
          refine HT_ret ?_
          obtain rfl := Option.some.inj (show some _ = some r from H)
          exact hQr _ _ [.bool false] ⟨rfl, trivial⟩ ⟨rfl, hH.sel [] (by decide)⟩
        · replace H := iteF hb44 H
          refine HT_false (congrArg Value.bool hb44) ?_
          refine HT_skip ?_
          refine hK36 _ _ ?_
          refine HT_seq_k ?_
          intro K46 hK46
          refine HT_seq_k ?_
          intro K47 hK47
          refine HT_region ?_
          refine HL_cons rfl ?_
          refine o_move ?_
          try dsimp only [putL, setL, evL, getL]
          refine HL_cons rfl ?_
          refine o_move ?_
          try dsimp only [putL, setL, evL, getL]
          obtain ⟨u48, hu48, H⟩ := headE H
          refine HL_cons rfl ?_
          refine o_call (args := #[.slice A0p p0.length c0p]) Try.func15 rfl rfl rfl (laws_toIntS.ok sb s43 no A0p c0p p0 HRp0 (Hp.own hH.bs) _ hu48) ?_
          rintro _ s48 ⟨A49, c49, rfl, hD⟩
          replace hH := hH.back0 hD (Up.refl _ _ _)
          clear hD
          dsimp only [addC, setC, rmC, selC, getC] at hH
          try dsimp only [putL, setL, evL, getL]
          obtain ⟨u50, hu50, H⟩ := headE H
          refine HL_cons rfl ?_
          refine o_call (args := #[.slice A19 u18.length c19, .slice A49 u48.length c49]) Try.func17 rfl rfl rfl (laws_eqIntS.ok s48 s48 no A19 c19 u18 A49 c49 u48 (hH.rd 1 rfl) (hH.rd 4 rfl) (Hp.own (Bs.refl s48)) _ hu50) ?_
          rintro _ s50 ⟨rfl, hD⟩
          replace hH := hH.back0T hD
          clear hD
          dsimp only [addC, setC, rmC, selC, getC] at hH
          try dsimp only [putL, setL, evL, getL]
          refine HL_cons rfl ?_
          refine o_not rfl ?_
          try dsimp only [putL, setL, evL, getL]
          refine HL_nil ?_
          refine hK47 _ _ ?_
          rcases Bool.eq_false_or_eq_true (!u50) with hb51 | hb51
          · replace H := iteT hb51 H
            refine HT_true (congrArg Value.bool hb51) ?_
            refine HT_seq_k ?_
            intro K52 hK52
            refine HT_region ?_
            refine HL_cons rfl ?_
            refine o_assign ?_
            try dsimp only [putL, setL, evL, getL]
            refine HL_nil ?_
            refine hK52 _ _ ?_
            refine HT_ret ?_
            obtain rfl := Option.some.inj (show some _ = some r from H)
            exact hQr _ _ [.bool false] ⟨rfl, trivial⟩ ⟨rfl, hH.sel [] (by decide)⟩
          · replace H := iteF hb51 H
            refine HT_false (congrArg Value.bool hb51) ?_
            refine HT_skip ?_
            refine hK46 _ _ ?_
            refine HT_seq_k ?_
            intro K53 hK53
            refine HT_seq_k ?_
            intro K54 hK54
            refine HT_region ?_
            refine HL_cons rfl ?_
            refine o_move ?_
            try dsimp only [putL, setL, evL, getL]
            refine HL_cons rfl ?_
            refine o_move ?_
            try dsimp only [putL, setL, evL, getL]
            obtain ⟨u55, hu55, H⟩ := headE H
            refine HL_cons rfl ?_
            refine o_call (args := #[.slice A1p p1.length c1p]) Try.func15 rfl rfl rfl (laws_toIntS.ok sb s50 no A1p c1p p1 HRp1 (Hp.own hH.bs) _ hu55) ?_
            rintro _ s55 ⟨A56, c56, rfl, hD⟩
            replace hH := hH.back0 hD (Up.refl _ _ _)
            clear hD
            dsimp only [addC, setC, rmC, selC, getC] at hH
            try dsimp only [putL, setL, evL, getL]
            obtain ⟨u57, hu57, H⟩ := headE H
            refine HL_cons rfl ?_
            refine o_call (args := #[.slice A22 u21.length c22, .slice A56 u55.length c56]) Try.func17 rfl rfl rfl (laws_eqIntS.ok s55 s55 no A22 c22 u21 A56 c56 u55 (hH.rd 2 rfl) (hH.rd 5 rfl) (Hp.own (Bs.refl s55)) _ hu57) ?_
            rintro _ s57 ⟨rfl, hD⟩
            replace hH := hH.back0T hD
            clear hD
            dsimp only [addC, setC, rmC, selC, getC] at hH
            try dsimp only [putL, setL, evL, getL]
            refine HL_cons rfl ?_
            refine o_not rfl ?_
            try dsimp only [putL, setL, evL, getL]
            refine HL_nil ?_
            refine hK54 _ _ ?_
            rcases Bool.eq_false_or_eq_true (!u57) with hb58 | hb58
            · replace H := iteT hb58 H
              refine HT_true (congrArg Value.bool hb58) ?_
              refine HT_seq_k ?_
              intro K59 hK59
              refine HT_region ?_
              refine HL_cons rfl ?_
              refine o_assign ?_
              try dsimp only [putL, setL, evL, getL]
              refine HL_nil ?_
              refine hK59 _ _ ?_
              refine HT_ret ?_
              obtain rfl := Option.some.inj (show some _ = some r from H)
              exact hQr _ _ [.bool false] ⟨rfl, trivial⟩ ⟨rfl, hH.sel [] (by decide)⟩
            · replace H := iteF hb58 H
              refine HT_false (congrArg Value.bool hb58) ?_
              refine HT_skip ?_
              refine hK53 _ _ ?_
              refine HT_seq_k ?_
              intro K60 hK60
              refine HT_region ?_
              refine HL_cons rfl ?_
              refine o_assign ?_
              try dsimp only [putL, setL, evL, getL]
              refine HL_nil ?_
              refine hK60 _ _ ?_
              refine HT_seq_k ?_
              intro K61 hK61
              refine HT_region ?_
              refine HL_cons rfl ?_
              refine o_move ?_
              try dsimp only [putL, setL, evL, getL]
              refine HL_cons rfl ?_
              refine o_move ?_
              try dsimp only [putL, setL, evL, getL]
              obtain ⟨u62, hu62, H⟩ := headE H
              obtain ⟨F1, hA, hB⟩ := hH.take [1] (by decide)
              dsimp only [addC, setC, rmC, selC, getC] at hA
              refine HL_cons rfl ?_
              refine o_call (args := #[.slice A19 u18.length c19, .int .i64 1]) Try.func24 rfl rfl rfl (laws_markIntS.ok sb s57 F1 A19 c19 u18 1 hA _ hu62) ?_
              rintro _ s62 ⟨rfl, hD, hl63⟩
              replace hH := hB _ _ _ (Up.refl _ _ _) hD
              clear hD hA hB
              dsimp only [addC, setC, rmC, selC, getC] at hH
              try dsimp only [putL, setL, evL, getL]
              refine HL_cons rfl ?_
              refine o_assign ?_
              try dsimp only [putL, setL, evL, getL]
              refine HL_nil ?_
              refine hK61 _ _ ?_
              refine HT_seq_k ?_
              intro K64 hK64
              refine HT_region ?_
              refine HL_cons rfl ?_
              refine o_move ?_
              try dsimp only [putL, setL, evL, getL]
              refine HL_cons rfl ?_
              refine o_move ?_
              try dsimp only [putL, setL, evL, getL]
              obtain ⟨u65, hu65, H⟩ := headE H
              obtain ⟨F1, hA, hB⟩ := hH.take [2] (by decide)
              dsimp only [addC, setC, rmC, selC, getC] at hA
              refine HL_cons rfl ?_
              refine o_call (args := #[.slice A22 u21.length c22, .int .i64 u62.1]) Try.func24 rfl rfl rfl (laws_markIntS.ok sb s62 F1 A22 c22 u21 u62.1 hA _ hu65) ?_
              rintro _ s65 ⟨rfl, hD, hl66⟩
              replace hH := hB _ _ _ (Up.refl _ _ _) hD
              clear hD hA hB
              dsimp only [addC, setC, rmC, selC, getC] at hH
              try dsimp only [putL, setL, evL, getL]
              refine HL_cons rfl ?_
              refine o_assign ?_
              try dsimp only [putL, setL, evL, getL]
              refine HL_nil ?_
              refine hK64 _ _ ?_
              refine HT_seq_k ?_
              intro K79 hK79
              refine joinH H fun G80 hG80 H => ?_
              refine HT_joinK (fun l' s' => ∃ (x84 : Bool), G80 x84 = some r ∧ l' = [.slice A0p p0.length c0p, .slice A1p p1.length c1p, .int .i64 p2, undef, undef, undef, .bool false, .slice A16 u15.1.length c16, .bool u15.2, .slice A19 u18.length c19, .slice A22 u21.length c22, .slice A25 u24.1.length c25, .bool u24.2, .int .i64 u65.1, undef, undef, undef, undef, .slice A0p p0.length c0p, .int .i64 (p0.length : Int), .bool (decide ((p0.length : Int) > 1048576)), .slice A1p p1.length c1p, .int .i64 (p1.length : Int), .bool (decide ((p1.length : Int) > 1048576)), .tuple #[.slice A16 u15.1.length c16, .bool u15.2], .slice A0p p0.length c0p, .slice A12 u11.length c12, .slice A1p p1.length c1p, .slice A14 u13.length c14, .int .i64 p2, .tuple #[.slice A16 u15.1.length c16, .bool u15.2], .slice A16 u15.1.length c16, .bool u15.2, .slice A0p p0.length c0p, .slice A19 u18.length c19, .slice A1p p1.length c1p, .slice A22 u21.length c22, .tuple #[.slice A25 u24.1.length c25, .bool u24.2], .slice A19 u18.length c19, .slice A22 u21.length c22, .int .i64 p2, .tuple #[.slice A25 u24.1.length c25, .bool u24.2], .slice A25 u24.1.length c25, .bool u24.2, j44, j45, j46, j47, j48, j49, j50, j51, .bool x40, .slice A19 u18.length c19, .slice A0p p0.length c0p, .slice A49 u48.length c49, .bool u50, .bool (!u50), .slice A22 u21.length c22, .slice A1p p1.length c1p, .slice A56 u55.length c56, .bool u57, .bool (!u57), .slice A19 u18.length c19, .int .i64 1, .int .i64 u62.1, .slice A22 u21.length c22, .int .i64 u62.1, .int .i64 u65.1, getL l' 69, getL l' 70, getL l' 71, getL l' 72, getL l' 73, getL l' 74, getL l' 75, getL l' 76, getL l' 77, getL l' 78, getL l' 79, getL l' 80, .bool x84, undef, undef, undef, undef, undef, undef, undef, undef, undef, undef, undef, undef, undef, undef, undef, undef, undef, undef, undef, undef, undef, undef, undef, undef, undef, undef, undef, undef, undef, undef, undef, undef, undef, undef, undef, undef, undef] ∧ Hp sb s F0 s' [Ck.ol OI 3 A16 c16 u15.1, Ck.ol OI 3 A25 c25 u24.1]) ?_ ?_
              · intro K80 hK80
                refine HT_region ?_
                refine HL_cons rfl ?_
                refine o_move ?_
                try dsimp only [putL, setL, evL, getL]
                refine HL_cons rfl ?_
                refine o_bin rfl rfl rfl ?_
                try dsimp only [putL, setL, evL, getL]
                refine HL_cons rfl ?_
                refine o_move ?_
                try dsimp only [putL, setL, evL, getL]
                rcases Bool.eq_false_or_eq_true (decide (u65.1 < 0)) with hb85 | hb85
                · replace H := iteT hb85 H
                  refine HL_skip ?_ ?_
                  · exact wantF (j := 2) (b := false) (t := 71) (c := decide (u65.1 < 0)) rfl rfl rfl rfl hb85
                  try dsimp only [putL, setL, evL, getL]
                  refine HL_skip ?_ ?_
                  · exact wantF (j := 2) (b := false) (t := 71) (c := decide (u65.1 < 0)) rfl rfl rfl rfl hb85
                  try dsimp only [putL, setL, evL, getL]
                  refine HL_skip ?_ ?_
                  · exact wantF (j := 2) (b := false) (t := 71) (c := decide (u65.1 < 0)) rfl rfl rfl rfl hb85
                  try dsimp only [putL, setL, evL, getL]
                  refine HL_skip ?_ ?_
                  · exact wantF (j := 2) (b := false) (t := 71) (c := decide (u65.1 < 0)) rfl rfl rfl rfl hb85
                  try dsimp only [putL, setL, evL, getL]
                  refine HL_cons rfl ?_
                  refine o_pickT rfl hb85 ?_
                  try dsimp only [putL, setL, evL, getL]
                  refine HL_cons rfl ?_
                  refine o_move ?_
                  try dsimp only [putL, setL, evL, getL]
                  refine HL_skip ?_ ?_
                  · exact wantF (j := 8) (b := false) (t := 77) (c := true) rfl rfl rfl rfl rfl
                  try dsimp only [putL, setL, evL, getL]
                  refine HL_skip ?_ ?_
                  · exact wantF (j := 8) (b := false) (t := 77) (c := true) rfl rfl rfl rfl rfl
                  try dsimp only [putL, setL, evL, getL]
                  refine HL_skip ?_ ?_
                  · exact wantF (j := 8) (b := false) (t := 77) (c := true) rfl rfl rfl rfl rfl
                  try dsimp only [putL, setL, evL, getL]
                  refine HL_cons rfl ?_
                  refine o_pickT rfl rfl ?_
                  try dsimp only [putL, setL, evL, getL]
                  refine HL_nil ?_
                  exact hK80 _ _ ⟨true, H, rfl, hH.sel [0, 3] (by decide)⟩
                · replace H := iteF hb85 H
                  refine HL_want ?_ ?_
                  · exact wantT (j := 2) (b := false) (t := 71) (c := decide (u65.1 < 0)) rfl rfl rfl rfl hb85
                  refine o_move ?_
                  try dsimp only [putL, setL, evL, getL]
                  refine HL_want ?_ ?_
                  · exact wantT (j := 2) (b := false) (t := 71) (c := decide (u65.1 < 0)) rfl rfl rfl rfl hb85
                  refine o_move ?_
                  try dsimp only [putL, setL, evL, getL]
                  obtain ⟨u86, hu86, H⟩ := headE H
                  refine HL_want ?_ ?_
                  · exact wantT (j := 2) (b := false) (t := 71) (c := decide (u65.1 < 0)) rfl rfl rfl rfl hb85
                  refine o_call (args := #[.slice A25 u24.1.length c25, .slice A16 u15.1.length c16]) Try.func17 rfl rfl rfl (laws_eqIntS.ok s65 s65 no A25 c25 u24.1 A16 c16 u15.1 (hH.rd 3 rfl) (hH.rd 0 rfl) (Hp.own (Bs.refl s65)) _ hu86) ?_
                  rintro _ s86 ⟨rfl, hD⟩
                  replace hH := hH.back0T hD
                  clear hD
                  dsimp only [addC, setC, rmC, selC, getC] at hH
                  try dsimp only [putL, setL, evL, getL]
                  refine HL_want ?_ ?_
                  · exact wantT (j := 2) (b := false) (t := 71) (c := decide (u65.1 < 0)) rfl rfl rfl rfl hb85
                  refine o_not rfl ?_
                  try dsimp only [putL, setL, evL, getL]
                  refine HL_cons rfl ?_
                  refine o_pickF rfl hb85 ?_
                  try dsimp only [putL, setL, evL, getL]
                  refine HL_cons rfl ?_
                  refine o_move ?_
                  try dsimp only [putL, setL, evL, getL]
                  rcases Bool.eq_false_or_eq_true (!u86) with hb87 | hb87
                  · replace H := iteT hb87 H
                    refine HL_skip ?_ ?_
                    · exact wantF (j := 8) (b := false) (t := 77) (c := !u86) rfl rfl rfl rfl hb87
                    try dsimp only [putL, setL, evL, getL]
                    refine HL_skip ?_ ?_
                    · exact wantF (j := 8) (b := false) (t := 77) (c := !u86) rfl rfl rfl rfl hb87
                    try dsimp only [putL, setL, evL, getL]
                    refine HL_skip ?_ ?_
                    · exact wantF (j := 8) (b := false) (t := 77) (c := !u86) rfl rfl rfl rfl hb87
                    try dsimp only [putL, setL, evL, getL]
                    refine HL_cons rfl ?_
                    refine o_pickT rfl hb87 ?_
                    try dsimp only [putL, setL, evL, getL]
                    refine HL_nil ?_
                    exact hK80 _ _ ⟨true, H, rfl, hH.sel [0, 3] (by decide)⟩
                  · replace H := iteF hb87 H
                    refine HL_want ?_ ?_
                    · exact wantT (j := 8) (b := false) (t := 77) (c := !u86) rfl rfl rfl rfl hb87
                    refine o_move ?_
                    try dsimp only [putL, setL, evL, getL]
                    refine HL_want ?_ ?_
                    · exact wantT (j := 8) (b := false) (t := 77) (c := !u86) rfl rfl rfl rfl hb87
                    refine o_move ?_
                    try dsimp only [putL, setL, evL, getL]
                    refine HL_want ?_ ?_
                    · exact wantT (j := 8) (b := false) (t := 77) (c := !u86) rfl rfl rfl rfl hb87
                    refine o_neb rfl rfl Try.underlying4 ?_
                    try dsimp only [putL, setL, evL, getL]
                    refine HL_cons rfl ?_
                    refine o_pickF rfl hb87 ?_
                    try dsimp only [putL, setL, evL, getL]
                    refine HL_nil ?_
                    exact hK80 _ _ ⟨u24.2 != u15.2, H, rfl, hH.sel [0, 3] (by decide)⟩
              · rintro l' s88 ⟨x84, H, hl, hH⟩
                generalize getL l' 69 = j69, getL l' 70 = j70, getL l' 71 = j71, getL l' 72 = j72, getL l' 73 = j73, getL l' 74 = j74, getL l' 75 = j75, getL l' 76 = j76, getL l' 77 = j77, getL l' 78 = j78, getL l' 79 = j79, getL l' 80 = j80 at hl
                subst hl
                replace H := hG80 _ H
                try dsimp only at H
                rcases Bool.eq_false_or_eq_true x84 with hb89 | hb89
                · replace H := iteT hb89 H
                  refine HT_true (congrArg Value.bool hb89) ?_
                  refine HT_seq_k ?_
                  intro K90 hK90
                  refine HT_region ?_
                  refine HL_cons rfl ?_
                  refine o_assign ?_
                  try dsimp only [putL, setL, evL, getL]
                  refine HL_nil ?_
                  refine hK90 _ _ ?_
                  refine HT_ret ?_
                  obtain rfl := Option.some.inj (show some _ = some r from H)
                  exact hQr _ _ [.bool false] ⟨rfl, trivial⟩ ⟨rfl, hH.sel [] (by decide)⟩
                · replace H := iteF hb89 H
                  refine HT_false (congrArg Value.bool hb89) ?_
                  refine HT_skip ?_
                  refine hK79 _ _ ?_
                  refine HT_seq_k ?_
                  intro K91 hK91
                  refine HT_region ?_
                  refine HL_cons rfl ?_
                  refine o_assign ?_
                  try dsimp only [putL, setL, evL, getL]
                  refine HL_nil ?_
                  refine hK91 _ _ ?_
                  refine HT_seq_k ?_
                  intro K92 hK92
                  refine HT_region ?_
                  refine HL_cons rfl ?_
                  refine o_move ?_
                  try dsimp only [putL, setL, evL, getL]
                  refine HL_cons rfl ?_
                  refine o_move ?_
                  try dsimp only [putL, setL, evL, getL]
                  obtain ⟨u93, hu93, H⟩ := headE H
                  obtain ⟨F1, hA, hB⟩ := hH.take [1] (by decide)
                  dsimp only [addC, setC, rmC, selC, getC] at hA
                  refine HL_cons rfl ?_
                  refine o_call (args := #[.slice A25 u24.1.length c25, .int .i64 1]) Try.func24 rfl rfl rfl (laws_markIntS.ok sb s88 F1 A25 c25 u24.1 1 hA _ hu93) ?_
                  rintro _ s93 ⟨rfl, hD, hl94⟩
                  replace hH := hB _ _ _ (Up.refl _ _ _) hD
                  clear hD hA hB
                  dsimp only [addC, setC, rmC, selC, getC] at hH
                  try dsimp only [putL, setL, evL, getL]
                  refine HL_cons rfl ?_
                  refine o_assign ?_
                  try dsimp only [putL, setL, evL, getL]
                  refine HL_nil ?_
                  refine hK92 _ _ ?_
                  refine HT_seq_k ?_
                  intro K95 hK95
                  refine HT_region ?_
                  refine HL_cons rfl ?_
                  refine o_assign ?_
                  try dsimp only [putL, setL, evL, getL]
                  refine HL_nil ?_
                  refine hK95 _ _ ?_
                  refine HT_seq_k ?_
                  intro K96 hK96
                  refine HT_region ?_
                  refine HL_cons rfl ?_
                  refine o_move ?_
                  try dsimp only [putL, setL, evL, getL]
                  refine HL_cons rfl ?_
                  refine o_move ?_
                  try dsimp only [putL, setL, evL, getL]
                  obtain ⟨u97, hu97, H⟩ := headE H
                  refine HL_cons rfl ?_
                  refine o_call (args := #[.slice A25 u93.2.length c25, .int .i64 1]) Try.func25 rfl rfl (by show ([.slice A25 u24.1.length c25, .int .i64 1] : List Value) = [.slice A25 u93.2.length c25, .int .i64 1]; rw [hl94]; first | done | rfl) (laws_heldIntS.ok s93 s93 no A25 c25 u93.2 1 (hH.rd 2 rfl) (Hp.own (Bs.refl s93)) _ hu97) ?_
                  rintro _ s97 ⟨rfl, hD⟩
                  replace hH := hH.back0T hD
                  clear hD
                  dsimp only [addC, setC, rmC, selC, getC] at hH
                  try dsimp only [putL, setL, evL, getL]
                  refine HL_cons rfl ?_
                  refine o_assign ?_
                  try dsimp only [putL, setL, evL, getL]
                  refine HL_nil ?_
                  refine hK96 _ _ ?_
                  refine HT_seq_k ?_
                  intro K98 hK98
                  refine HT_seq_k ?_
                  intro K99 hK99
                  refine HT_region ?_
                  refine HL_cons rfl ?_
                  refine o_move ?_
                  try dsimp only [putL, setL, evL, getL]
                  refine HL_cons rfl ?_
                  refine o_bin rfl rfl rfl ?_
                  try dsimp only [putL, setL, evL, getL]
                  refine HL_nil ?_
                  refine hK99 _ _ ?_
                  rcases Bool.eq_false_or_eq_true (decide (u97 < 0)) with hb100 | hb100
                  · replace H := iteT hb100 H
                    refine HT_true (congrArg Value.bool hb100) ?_
                    refine HT_seq_k ?_
                    intro K101 hK101
                    refine HT_region ?_
                    refine HL_cons rfl ?_
                    refine o_assign ?_
                    try dsimp only [putL, setL, evL, getL]
                    refine HL_nil ?_
                    refine hK101 _ _ ?_
                    refine HT_ret ?_
                    obtain rfl := Option.some.inj (show some _ = some r from H)
                    exact hQr _ _ [.bool false] ⟨rfl, trivial⟩ ⟨rfl, hH.sel [] (by decide)⟩
                  · replace H := iteF hb100 H
                    refine HT_false (congrArg Value.bool hb100) ?_
                    refine HT_skip ?_
                    refine hK98 _ _ ?_
                    refine HT_seq_k ?_
                    intro K102 hK102
                    refine HT_seq_k ?_
                    intro K103 hK103
                    refine HT_region ?_
                    refine HL_cons rfl ?_
                    refine o_move ?_
                    try dsimp only [putL, setL, evL, getL]
                    refine HL_cons rfl ?_
                    refine o_move ?_
                    try dsimp only [putL, setL, evL, getL]
                    refine HL_cons rfl ?_
                    refine o_bin rfl rfl rfl ?_
                    try dsimp only [putL, setL, evL, getL]
                    refine HL_nil ?_
                    refine hK103 _ _ ?_
                    rcases Bool.eq_false_or_eq_true (u97 != u93.1) with hb104 | hb104
                    · replace H := iteT hb104 H
                      refine HT_true (congrArg Value.bool hb104) ?_
                      refine HT_seq_k ?_
                      intro K105 hK105
                      refine HT_region ?_
                      refine HL_cons rfl ?_
                      refine o_assign ?_
                      try dsimp only [putL, setL, evL, getL]
                      refine HL_nil ?_
                      refine hK105 _ _ ?_
                      refine HT_ret ?_
                      obtain rfl := Option.some.inj (show some _ = some r from H)
                      exact hQr _ _ [.bool false] ⟨rfl, trivial⟩ ⟨rfl, hH.sel [] (by decide)⟩
                    · replace H := iteF hb104 H
                      refine HT_false (congrArg Value.bool hb104) ?_
                      refine HT_skip ?_
                      refine hK102 _ _ ?_
                      refine HT_seq_k ?_
                      intro K106 hK106
                      refine HT_region ?_
                      refine HL_cons rfl ?_
                      refine o_move ?_
                      try dsimp only [putL, setL, evL, getL]
                      obtain ⟨u107, hu107, H⟩ := headE H
                      refine HL_cons rfl ?_
                      refine o_call (args := #[.slice A0p p0.length c0p]) Try.func15 rfl rfl rfl (laws_toIntS.ok sb s97 no A0p c0p p0 HRp0 (Hp.own hH.bs) _ hu107) ?_
                      rintro _ s107 ⟨A108, c108, rfl, hD⟩
                      replace hH := hH.back0 hD (Up.refl _ _ _)
                      clear hD
                      dsimp only [addC, setC, rmC, selC, getC] at hH
                      try dsimp only [putL, setL, evL, getL]
                      refine HL_cons rfl ?_
                      refine o_move ?_
                      try dsimp only [putL, setL, evL, getL]
                      obtain ⟨u109, hu109, H⟩ := headE H
                      refine HL_cons rfl ?_
                      refine o_call (args := #[.slice A1p p1.length c1p]) Try.func15 rfl rfl rfl (laws_toIntS.ok sb s107 no A1p c1p p1 HRp1 (Hp.own hH.bs) _ hu109) ?_
                      rintro _ s109 ⟨A110, c110, rfl, hD⟩
                      replace hH := hH.back0 hD (Up.refl _ _ _)
                      clear hD
                      dsimp only [addC, setC, rmC, selC, getC] at hH
                      try dsimp only [putL, setL, evL, getL]
                      refine HL_cons rfl ?_
                      refine o_move ?_
                      try dsimp only [putL, setL, evL, getL]
                      obtain ⟨u111, hu111, H⟩ := headE H
                      refine HL_cons rfl ?_
                      refine o_call (args := #[.slice A108 u107.length c108, .slice A110 u109.length c110, .int .i64 p2]) Try.func23 rfl rfl rfl (impl_NearEnds.ok s109 s109 no A108 c108 u107 A110 c110 u109 p2 (hH.rd 3 rfl) (hH.rd 4 rfl) (Hp.own (Bs.refl s109)) _ hu111) ?_
                      rintro _ s111 ⟨A112, c112, rfl, hD⟩
                      replace hH := hH.back0T hD
                      clear hD
                      dsimp only [addC, setC, rmC, selC, getC] at hH
                      try dsimp only [putL, setL, evL, getL]
                      refine HL_cons rfl ?_
                      refine o_move ?_
                      try dsimp only [putL, setL, evL, getL]
                      refine HL_cons rfl ?_
                      refine o_extract rfl rfl ?_
                      try dsimp only [putL, setL, evL, getL]
                      refine HL_cons rfl ?_
                      refine o_extract rfl rfl ?_
                      try dsimp only [putL, setL, evL, getL]
                      refine HL_cons rfl ?_
                      refine o_assign ?_
                      try dsimp only [putL, setL, evL, getL]
                      refine HL_cons rfl ?_
                      refine o_assign ?_
                      try dsimp only [putL, setL, evL, getL]
                      refine HL_nil ?_
                      refine hK106 _ _ ?_
                      refine HT_seq_k ?_
                      intro K123 hK123
                      refine joinH H fun G124 hG124 H => ?_
                      refine HT_joinK (fun l' s' => ∃ (x127 : Bool), G124 x127 = some r ∧ l' = [.slice A0p p0.length c0p, .slice A1p p1.length c1p, .int .i64 p2, undef, undef, undef, .bool false, .slice A16 u15.1.length c16, .bool u15.2, .slice A19 u18.length c19, .slice A22 u21.length c22, .slice A25 u24.1.length c25, .bool u24.2, .int .i64 u65.1, .int .i64 u93.1, .int .i64 u97, .slice A112 u111.1.length c112, .bool u111.2, .slice A0p p0.length c0p, .int .i64 (p0.length : Int), .bool (decide ((p0.length : Int) > 1048576)), .slice A1p p1.length c1p, .int .i64 (p1.length : Int), .bool (decide ((p1.length : Int) > 1048576)), .tuple #[.slice A16 u15.1.length c16, .bool u15.2], .slice A0p p0.length c0p, .slice A12 u11.length c12, .slice A1p p1.length c1p, .slice A14 u13.length c14, .int .i64 p2, .tuple #[.slice A16 u15.1.length c16, .bool u15.2], .slice A16 u15.1.length c16, .bool u15.2, .slice A0p p0.length c0p, .slice A19 u18.length c19, .slice A1p p1.length c1p, .slice A22 u21.length c22, .tuple #[.slice A25 u24.1.length c25, .bool u24.2], .slice A19 u18.length c19, .slice A22 u21.length c22, .int .i64 p2, .tuple #[.slice A25 u24.1.length c25, .bool u24.2], .slice A25 u24.1.length c25, .bool u24.2, j44, j45, j46, j47, j48, j49, j50, j51, .bool x40, .slice A19 u18.length c19, .slice A0p p0.length c0p, .slice A49 u48.length c49, .bool u50, .bool (!u50), .slice A22 u21.length c22, .slice A1p p1.length c1p, .slice A56 u55.length c56, .bool u57, .bool (!u57), .slice A19 u18.length c19, .int .i64 1, .int .i64 u62.1, .slice A22 u21.length c22, .int .i64 u62.1, .int .i64 u65.1, j69, j70, j71, j72, j73, j74, j75, j76, j77, j78, j79, j80, .bool x84, .slice A25 u24.1.length c25, .int .i64 1, .int .i64 u93.1, .slice A25 u24.1.length c25, .int .i64 1, .int .i64 u97, .int .i64 u97, .bool (decide (u97 < 0)), .int .i64 u97, .int .i64 u93.1, .bool (u97 != u93.1), .tuple #[.slice A112 u111.1.length c112, .bool u111.2], .slice A0p p0.length c0p, .slice A108 u107.length c108, .slice A1p p1.length c1p, .slice A110 u109.length c110, .int .i64 p2, .tuple #[.slice A112 u111.1.length c112, .bool u111.2], .slice A112 u111.1.length c112, .bool u111.2, getL l' 102, getL l' 103, getL l' 104, getL l' 105, getL l' 106, getL l' 107, getL l' 108, getL l' 109, .bool x127, undef, undef, undef, undef, undef, undef, undef, undef] ∧ Hp sb s F0 s' [Ck.ol OI 3 A25 c25 u93.2]) ?_ ?_
                      · intro K124 hK124
                        refine HT_region ?_
                        refine HL_cons rfl ?_
                        refine o_move ?_
                        try dsimp only [putL, setL, evL, getL]
                        refine HL_cons rfl ?_
                        refine o_move ?_
                        try dsimp only [putL, setL, evL, getL]
                        obtain ⟨u128, hu128, H⟩ := headE H
                        refine HL_cons rfl ?_
                        refine o_call (args := #[.slice A112 u111.1.length c112, .slice A16 u15.1.length c16]) Try.func17 rfl rfl rfl (laws_eqIntS.ok s111 s111 no A112 c112 u111.1 A16 c16 u15.1 (hH.rd 5 rfl) (hH.rd 0 rfl) (Hp.own (Bs.refl s111)) _ hu128) ?_
                        rintro _ s128 ⟨rfl, hD⟩
                        replace hH := hH.back0T hD
                        clear hD
                        dsimp only [addC, setC, rmC, selC, getC] at hH
                        try dsimp only [putL, setL, evL, getL]
                        refine HL_cons rfl ?_
                        refine o_not rfl ?_
                        try dsimp only [putL, setL, evL, getL]
                        refine HL_cons rfl ?_
                        refine o_move ?_
                        try dsimp only [putL, setL, evL, getL]
                        rcases Bool.eq_false_or_eq_true (!u128) with hb129 | hb129
                        · replace H := iteT hb129 H
                          refine HL_skip ?_ ?_
                          · exact wantF (j := 4) (b := false) (t := 106) (c := !u128) rfl rfl rfl rfl hb129
                          try dsimp only [putL, setL, evL, getL]
                          refine HL_skip ?_ ?_
                          · exact wantF (j := 4) (b := false) (t := 106) (c := !u128) rfl rfl rfl rfl hb129
                          try dsimp only [putL, setL, evL, getL]
                          refine HL_skip ?_ ?_
                          · exact wantF (j := 4) (b := false) (t := 106) (c := !u128) rfl rfl rfl rfl hb129
                          try dsimp only [putL, setL, evL, getL]
                          refine HL_cons rfl ?_
                          refine o_pickT rfl hb129 ?_
                          try dsimp only [putL, setL, evL, getL]
                          refine HL_nil ?_
                          exact hK124 _ _ ⟨true, H, rfl, hH.sel [2] (by decide)⟩
                        · replace H := iteF hb129 H
                          refine HL_want ?_ ?_
                          · exact wantT (j := 4) (b := false) (t := 106) (c := !u128) rfl rfl rfl rfl hb129
                          refine o_move ?_
                          try dsimp only [putL, setL, evL, getL]
                          refine HL_want ?_ ?_
                          · exact wantT (j := 4) (b := false) (t := 106) (c := !u128) rfl rfl rfl rfl hb129
                          refine o_move ?_
                          try dsimp only [putL, setL, evL, getL]
                          refine HL_want ?_ ?_
                          · exact wantT (j := 4) (b := false) (t := 106) (c := !u128) rfl rfl rfl rfl hb129
                          refine o_neb rfl rfl Try.underlying4 ?_
                          try dsimp only [putL, setL, evL, getL]
                          refine HL_cons rfl ?_
                          refine o_pickF rfl hb129 ?_
                          try dsimp only [putL, setL, evL, getL]
                          refine HL_nil ?_
                          exact hK124 _ _ ⟨u111.2 != u15.2, H, rfl, hH.sel [2] (by decide)⟩
                      · rintro l' s130 ⟨x127, H, hl, hH⟩
                        generalize getL l' 102 = j102, getL l' 103 = j103, getL l' 104 = j104, getL l' 105 = j105, getL l' 106 = j106, getL l' 107 = j107, getL l' 108 = j108, getL l' 109 = j109 at hl
                        subst hl
                        replace H := hG124 _ H
                        try dsimp only at H
                        rcases Bool.eq_false_or_eq_true x127 with hb131 | hb131
                        · replace H := iteT hb131 H
                          refine HT_true (congrArg Value.bool hb131) ?_
                          refine HT_seq_k ?_
                          intro K132 hK132
                          refine HT_region ?_
                          refine HL_cons rfl ?_
                          refine o_assign ?_
                          try dsimp only [putL, setL, evL, getL]
                          refine HL_nil ?_
                          refine hK132 _ _ ?_
                          refine HT_ret ?_
                          obtain rfl := Option.some.inj (show some _ = some r from H)
                          exact hQr _ _ [.bool false] ⟨rfl, trivial⟩ ⟨rfl, hH.sel [] (by decide)⟩
                        · replace H := iteF hb131 H
                          refine HT_false (congrArg Value.bool hb131) ?_
                          refine HT_skip ?_
                          refine hK123 _ _ ?_
                          refine HT_seq_k ?_
                          intro K133 hK133
                          refine HT_region ?_
                          refine HL_cons rfl ?_
                          refine o_assign ?_
                          try dsimp only [putL, setL, evL, getL]
                          refine HL_nil ?_
                          refine hK133 _ _ ?_
                          refine HT_seq_k ?_
                          intro K134 hK134
                          refine HT_region ?_
                          refine HL_cons rfl ?_
                          refine o_move ?_
                          try dsimp only [putL, setL, evL, getL]
                          refine HL_cons rfl ?_
                          refine o_move ?_
                          try dsimp only [putL, setL, evL, getL]
                          obtain ⟨u135, hu135, H⟩ := headE H
                          refine HL_cons rfl ?_
                          refine o_call (args := #[.slice A25 u93.2.length c25, .int .i64 1]) Try.func25 rfl rfl (by show ([.slice A25 u24.1.length c25, .int .i64 1] : List Value) = [.slice A25 u93.2.length c25, .int .i64 1]; rw [hl94]; first | done | rfl) (laws_heldIntS.ok s130 s130 no A25 c25 u93.2 1 (hH.rd 0 rfl) (Hp.own (Bs.refl s130)) _ hu135) ?_
                          rintro _ s135 ⟨rfl, hD⟩
                          replace hH := hH.back0T hD
                          clear hD
                          dsimp only [addC, setC, rmC, selC, getC] at hH
                          try dsimp only [putL, setL, evL, getL]
                          refine HL_cons rfl ?_
                          refine o_assign ?_
                          try dsimp only [putL, setL, evL, getL]
                          refine HL_nil ?_
                          refine hK134 _ _ ?_
                          refine HT_seq_k ?_
                          intro K136 hK136
                          refine HT_seq_k ?_
                          intro K137 hK137
                          refine HT_region ?_
                          refine HL_cons rfl ?_
                          refine o_move ?_
                          try dsimp only [putL, setL, evL, getL]
                          refine HL_cons rfl ?_
                          refine o_bin rfl rfl rfl ?_
                          try dsimp only [putL, setL, evL, getL]
                          refine HL_nil ?_
                          refine hK137 _ _ ?_
                          rcases Bool.eq_false_or_eq_true (decide (u135 < 0)) with hb138 | hb138
                          · replace H := iteT hb138 H
                            refine HT_true (congrArg Value.bool hb138) ?_
                            refine HT_seq_k ?_
                            intro K139 hK139
                            refine HT_region ?_
                            refine HL_cons rfl ?_
                            refine o_assign ?_
                            try dsimp only [putL, setL, evL, getL]
                            refine HL_nil ?_
                            refine hK139 _ _ ?_
                            refine HT_ret ?_
                            obtain rfl := Option.some.inj (show some _ = some r from H)
                            exact hQr _ _ [.bool false] ⟨rfl, trivial⟩ ⟨rfl, hH.sel [] (by decide)⟩
                          · replace H := iteF hb138 H
                            refine HT_false (congrArg Value.bool hb138) ?_
                            refine HT_skip ?_
                            refine hK136 _ _ ?_
                            refine HT_seq_k ?_
                            intro K140 hK140
                            refine HT_seq_k ?_
                            intro K141 hK141
                            refine HT_region ?_
                            refine HL_cons rfl ?_
                            refine o_move ?_
                            try dsimp only [putL, setL, evL, getL]
                            refine HL_cons rfl ?_
                            refine o_move ?_
                            try dsimp only [putL, setL, evL, getL]
                            refine HL_cons rfl ?_
                            refine o_bin rfl rfl rfl ?_
                            try dsimp only [putL, setL, evL, getL]
                            refine HL_nil ?_
                            refine hK141 _ _ ?_
                            rcases Bool.eq_false_or_eq_true (u135 != u93.1) with hb142 | hb142
                            · replace H := iteT hb142 H
                              refine HT_true (congrArg Value.bool hb142) ?_
                              refine HT_seq_k ?_
                              intro K143 hK143
                              refine HT_region ?_
                              refine HL_cons rfl ?_
                              refine o_assign ?_
                              try dsimp only [putL, setL, evL, getL]
                              refine HL_nil ?_
                              refine hK143 _ _ ?_
                              refine HT_ret ?_
                              obtain rfl := Option.some.inj (show some _ = some r from H)
                              exact hQr _ _ [.bool false] ⟨rfl, trivial⟩ ⟨rfl, hH.sel [] (by decide)⟩
                            · replace H := iteF hb142 H
                              refine HT_false (congrArg Value.bool hb142) ?_
                              refine HT_skip ?_
                              refine hK140 _ _ ?_
                              refine HT_seq_k ?_
                              intro K144 hK144
                              refine HT_region ?_
                              refine HL_cons rfl ?_
                              refine o_assign ?_
                              try dsimp only [putL, setL, evL, getL]
                              refine HL_nil ?_
                              refine hK144 _ _ ?_
                              refine HT_ret ?_
                              obtain rfl := Option.some.inj (show some _ = some r from H)
                              exact hQr _ _ [.bool true] ⟨rfl, trivial⟩ ⟨rfl, hH.sel [] (by decide)⟩
end Go.Proofs.Ytihocjbngajjkaa
