/- The functions that the law reaches, as plain functions, each with its contract: printed by a program of the prover's. No conditions: lemmas. -/
import Derived.Test.YtkieinlcpkpcjaaProg
import Derived.Test.YtkieinlcpkpcjaaGM
set_option linter.unusedVariables false
set_option linter.unusedSimpArgs false
namespace Go.Proofs.Ytkieinlcpkpcjaa
open Go Go.Proofs.GL
abbrev KS135 := (Kd.pair KI (Kd.sl KI))
abbrev OS135 : Ow KS135 := (Ow.pair OI (Ow.sl OI 3))
abbrev OL135 : Ow KS135 := (Ow.pair OI (Ow.lent (Kd.sl KI)))
abbrev KS139 := (Kd.pair KI (Kd.sl KI))
abbrev OS139 : Ow KS139 := (Ow.pair OI (Ow.sl OI 3))
abbrev OL139 : Ow KS139 := (Ow.pair OI (Ow.lent (Kd.sl KI)))
abbrev KS219 := (Kd.pair KI KI)
abbrev OS219 : Ow KS219 := (Ow.pair OI OI)
theorem tI3 : TI Try.prog 3 (.int .i64 0) 1 8 := by unfold TI; kernel_rfl
theorem tI24 : TI Try.prog 24 (.slice none 0 0) 1 24 := by unfold TI; kernel_rfl
theorem tI105 : TI Try.prog 105 (.slice none 0 0) 1 24 := by unfold TI; kernel_rfl
theorem tI135 : TI Try.prog 135 (.agg #[.int .i64 0, .slice none 0 0]) 2 32 := by unfold TI; kernel_rfl
theorem tI139 : TI Try.prog 139 (.agg #[.int .i64 0, .slice none 0 0]) 2 32 := by unfold TI; kernel_rfl
theorem tI219 : TI Try.prog 219 (.agg #[.int .i64 0, .int .i64 0]) 2 16 := by unfold TI; kernel_rfl
theorem hMix : Try.prog.follows .mixedOrders = true := by kernel_rfl
def laws_szIntS.f (p0 : List (Int)) (p1 : Int) : Option Int := if (decide ((IntKind.i64.wrap (p1 - (p0.length : Int))) < 0)) = true then (some (-1)) else (some (IntKind.i64.wrap (p1 - (p0.length : Int))))
def laws_szIntS.post (sb s : St) (F0 : Fp) (r : Int) : Value → St → Prop := fun v s' => v = .int .i64 r ∧ Hp sb s F0 s' []
set_option maxRecDepth 100000 in
set_option maxHeartbeats 4000000 in
theorem laws_szIntS.ok (sb s : St) (F0 : Fp) (A0p : Option Addr) (c0p : Nat) (p0 : List (Int)) (p1 : Int) (HRp0 : Rd KI sb A0p c0p p0) (hH : Hp sb s F0 s []) (r : Int) (H : laws_szIntS.f p0 p1 = some r) : GCall Try.prog 188 #[.slice A0p p0.length c0p, .int .i64 p1] s (laws_szIntS.post sb s F0 r) := by
 refine GCall_ofk [.tmp 4] [.slice A0p p0.length c0p, .int .i64 p1, undef, undef, undef, undef, undef, undef, undef, undef, undef, undef] Try.func188 rfl rfl rfl ?_
 intro w Q hQr hQn hQp
 replace H := topE H
 unfold laws_szIntS.f at H
 refine HT_seq_k ?_
 intro K1 hK1
 refine HT_region ?_
 refine HL_cons rfl ?_
 refine o_assign ?_
 try dsimp only [putL, setL, evL, getL]
 refine HL_nil ?_
 refine hK1 _ _ ?_
 refine HT_seq_k ?_
 intro K2 hK2
 refine HT_region ?_
 refine HL_cons rfl ?_
 refine o_move ?_
 try dsimp only [putL, setL, evL, getL]
 refine HL_cons rfl ?_
 refine o_move ?_
 try dsimp only [putL, setL, evL, getL]
 refine HL_cons rfl ?_
 refine o_len rfl Try.underlying24 ?_
 try dsimp only [putL, setL, evL, getL]
 refine HL_cons rfl ?_
 refine o_bin rfl rfl rfl ?_
 try dsimp only [putL, setL, evL, getL]
 refine HL_cons rfl ?_
 refine o_assign ?_
 try dsimp only [putL, setL, evL, getL]
 refine HL_nil ?_
 refine hK2 _ _ ?_
 refine HT_seq_k ?_
 intro K3 hK3
 refine HT_seq_k ?_
 intro K4 hK4
 refine HT_region ?_
 refine HL_cons rfl ?_
 refine o_move ?_
 try dsimp only [putL, setL, evL, getL]
 refine HL_cons rfl ?_
 refine o_bin rfl rfl rfl ?_
 try dsimp only [putL, setL, evL, getL]
 refine HL_nil ?_
 refine hK4 _ _ ?_
 rcases Bool.eq_false_or_eq_true (decide ((IntKind.i64.wrap (p1 - (p0.length : Int))) < 0)) with hb5 | hb5
 ·replace H := iteT hb5 H
  refine HT_true (congrArg Value.bool hb5) ?_
  refine HT_seq_k ?_
  intro K6 hK6
  refine HT_region ?_
  refine HL_cons rfl ?_
  refine o_assign ?_
  try dsimp only [putL, setL, evL, getL]
  refine HL_nil ?_
  refine hK6 _ _ ?_
  refine HT_ret ?_
  exact hQr _ _ [.int .i64 (-1)] ⟨rfl, trivial⟩ (retH (fun r => laws_szIntS.post sb s F0 r _ _) (show some _ = some r from H) ⟨rfl, hH⟩)
 ·replace H := iteF hb5 H
  refine HT_false (congrArg Value.bool hb5) ?_
  refine HT_skip ?_
  refine hK3 _ _ ?_
  refine HT_seq_k ?_
  intro K7 hK7
  refine HT_region ?_
  refine HL_cons rfl ?_
  refine o_move ?_
  try dsimp only [putL, setL, evL, getL]
  refine HL_cons rfl ?_
  refine o_assign ?_
  try dsimp only [putL, setL, evL, getL]
  refine HL_nil ?_
  refine hK7 _ _ ?_
  refine HT_ret ?_
  exact hQr _ _ [.int .i64 (IntKind.i64.wrap (p1 - (p0.length : Int)))] ⟨rfl, trivial⟩ (retH (fun r => laws_szIntS.post sb s F0 r _ _) (show some _ = some r from H) ⟨rfl, hH⟩)
def laws_szRe.f (p0_0 : Int) (p0_1 : List (Int)) (p1 : Int) : Option Int := (laws_szIntS.f p0_1 p1).bind fun u4 => if (decide (u4 < 0)) = true then (some (-1)) else (some u4)
def laws_szRe.post (sb s : St) (F0 : Fp) (r : Int) : Value → St → Prop := fun v s' => v = .int .i64 r ∧ Hp sb s F0 s' []
set_option maxRecDepth 100000 in
set_option maxHeartbeats 4000000 in
theorem laws_szRe.ok (sb s : St) (F0 : Fp) (p0_0 : Int) (A0_1p : Option Addr) (c0_1p : Nat) (p0_1 : List (Int)) (p1 : Int) (HRp0_1 : Rd KI sb A0_1p c0_1p p0_1) (hH : Hp sb s F0 s []) (r : Int) (H : laws_szRe.f p0_0 p0_1 p1 = some r) : GCall Try.prog 127 #[.agg #[.int .i64 p0_0, .slice A0_1p p0_1.length c0_1p], .int .i64 p1] s (laws_szRe.post sb s F0 r) := by
 refine GCall_ofk [.tmp 4] [.agg #[.int .i64 p0_0, .slice A0_1p p0_1.length c0_1p], .int .i64 p1, undef, undef, undef, undef, undef, undef, undef, undef, undef, undef] Try.func127 rfl rfl rfl ?_
 intro w Q hQr hQn hQp
 replace H := topE H
 unfold laws_szRe.f at H
 refine HT_seq_k ?_
 intro K1 hK1
 refine HT_region ?_
 refine HL_cons rfl ?_
 refine o_boxH hH rfl ?_
 intro b2 s2 hH' hG
 replace hH : Hp sb s F0 s2 [Ck.ov b2 [.int .i64 p0_0, .slice A0_1p p0_1.length c0_1p] 135] := hH'
 clear hH' hG
 try dsimp only [putL, setL, evL, getL]
 refine HL_cons rfl ?_
 refine o_assign ?_
 try dsimp only [putL, setL, evL, getL]
 refine HL_nil ?_
 refine hK1 _ _ ?_
 refine HT_seq_k ?_
 intro K3 hK3
 refine HT_region ?_
 refine HL_cons rfl ?_
 refine o_faddr' (ft := 24) (off := 1) rfl Try.underlying135 rfl tI24 (by decide) ?_
 try dsimp only [putL, setL, evL, getL]
 refine HL_cons rfl ?_
 refine o_load' rfl Try.underlying24 rfl (hH.hasv 0 rfl rfl) ?_
 try dsimp only [putL, setL, evL, getL]
 refine HL_cons rfl ?_
 refine o_move ?_
 try dsimp only [putL, setL, evL, getL]
 replace H := headE H
 obtain ⟨u4, hu4, H⟩ := H
 refine HL_cons rfl ?_
 refine o_call (args := #[.slice A0_1p p0_1.length c0_1p, .int .i64 p1]) Try.func188 rfl rfl rfl (laws_szIntS.ok sb s2 no A0_1p c0_1p p0_1 p1 HRp0_1 (Hp.own hH.bs) _ hu4) ?_
 rintro _ s4 ⟨rfl, hD⟩
 replace hH := hH.back0 hD (Up.refl _ _ _)
 clear hD
 dsimp only [addC, setC, rmC, selC, getC] at hH
 try dsimp only [putL, setL, evL, getL]
 refine HL_cons rfl ?_
 refine o_assign ?_
 try dsimp only [putL, setL, evL, getL]
 refine HL_nil ?_
 refine hK3 _ _ ?_
 refine HT_seq_k ?_
 intro K5 hK5
 refine HT_seq_k ?_
 intro K6 hK6
 refine HT_region ?_
 refine HL_cons rfl ?_
 refine o_move ?_
 try dsimp only [putL, setL, evL, getL]
 refine HL_cons rfl ?_
 refine o_bin rfl rfl rfl ?_
 try dsimp only [putL, setL, evL, getL]
 refine HL_nil ?_
 refine hK6 _ _ ?_
 rcases Bool.eq_false_or_eq_true (decide (u4 < 0)) with hb7 | hb7
 ·replace H := iteT hb7 H
  refine HT_true (congrArg Value.bool hb7) ?_
  refine HT_seq_k ?_
  intro K8 hK8
  refine HT_region ?_
  refine HL_cons rfl ?_
  refine o_assign ?_
  try dsimp only [putL, setL, evL, getL]
  refine HL_nil ?_
  refine hK8 _ _ ?_
  refine HT_ret ?_
  exact hQr _ _ [.int .i64 (-1)] ⟨rfl, trivial⟩ (retH (fun r => laws_szRe.post sb s F0 r _ _) (show some _ = some r from H) ⟨rfl, hH.sel [] (by decide)⟩)
 ·replace H := iteF hb7 H
  refine HT_false (congrArg Value.bool hb7) ?_
  refine HT_skip ?_
  refine hK5 _ _ ?_
  refine HT_seq_k ?_
  intro K9 hK9
  refine HT_region ?_
  refine HL_cons rfl ?_
  refine o_move ?_
  try dsimp only [putL, setL, evL, getL]
  refine HL_cons rfl ?_
  refine o_assign ?_
  try dsimp only [putL, setL, evL, getL]
  refine HL_nil ?_
  refine hK9 _ _ ?_
  refine HT_ret ?_
  exact hQr _ _ [.int .i64 u4] ⟨rfl, trivial⟩ (retH (fun r => laws_szRe.post sb s F0 r _ _) (show some _ = some r from H) ⟨rfl, hH.sel [] (by decide)⟩)
def laws_szReS.l1 (p0 : List ((Int) × (List (Int)))) : Nat → Int → Int → Option (Lo Int Int)
 | 0, _, _ => none
 | kf + 1, x60, x61 => if (decide (x61 < (p0.length : Int))) = true then ((rd? p0 x61).bind fun u81 => (laws_szRe.f u81.1 u81.2 x60).bind fun u83 => if (decide (u83 < 0)) = true then ((some (-1)).bind fun z => some (Lo.ret z)) else (laws_szReS.l1 p0 kf u83 (IntKind.i64.wrap (x61 + 1)))) else (some (Lo.go x60))
def laws_szReS.f (p0 : List ((Int) × (List (Int)))) (p1 : Int) : Option Int := if (decide ((IntKind.i64.wrap (p1 - (p0.length : Int))) < 0)) = true then (some (-1)) else ((laws_szReS.l1 p0 ((((p0.length : Int)) - (0)).toNat + 2) (IntKind.i64.wrap (p1 - (p0.length : Int))) 0).bind fun (o : Lo Int Int) => match o with | .go x48 => (some x48) | .ret z => some z)
def laws_szReS.post (sb s : St) (F0 : Fp) (r : Int) : Value → St → Prop := fun v s' => v = .int .i64 r ∧ Hp sb s F0 s' []
set_option maxRecDepth 100000 in
set_option maxHeartbeats 4000000 in
theorem laws_szReS.ok (sb s : St) (F0 : Fp) (A0p : Option Addr) (c0p : Nat) (p0 : List ((Int) × (List (Int)))) (p1 : Int) (HRp0 : Rd KS135 sb A0p c0p p0) (hH : Hp sb s F0 s []) (r : Int) (H : laws_szReS.f p0 p1 = some r) : GCall Try.prog 37 #[.slice A0p p0.length c0p, .int .i64 p1] s (laws_szReS.post sb s F0 r) := by
 refine GCall_ofk [.tmp 4] [.slice A0p p0.length c0p, .int .i64 p1, undef, undef, undef, undef, undef, undef, undef, undef, undef, undef, undef, undef, undef, undef, undef, undef, undef, undef, undef, undef, undef, undef, undef, undef, undef] Try.func37 rfl rfl rfl ?_
 intro w Q hQr hQn hQp
 replace H := topE H
 unfold laws_szReS.f at H
 refine HT_seq_k ?_
 intro K1 hK1
 refine HT_region ?_
 refine HL_cons rfl ?_
 refine o_assign ?_
 try dsimp only [putL, setL, evL, getL]
 refine HL_nil ?_
 refine hK1 _ _ ?_
 refine HT_seq_k ?_
 intro K2 hK2
 refine HT_region ?_
 refine HL_cons rfl ?_
 refine o_move ?_
 try dsimp only [putL, setL, evL, getL]
 refine HL_cons rfl ?_
 refine o_move ?_
 try dsimp only [putL, setL, evL, getL]
 refine HL_cons rfl ?_
 refine o_len rfl Try.underlying50 ?_
 try dsimp only [putL, setL, evL, getL]
 refine HL_cons rfl ?_
 refine o_bin rfl rfl rfl ?_
 try dsimp only [putL, setL, evL, getL]
 refine HL_cons rfl ?_
 refine o_assign ?_
 try dsimp only [putL, setL, evL, getL]
 refine HL_nil ?_
 refine hK2 _ _ ?_
 refine HT_seq_k ?_
 intro K3 hK3
 refine HT_seq_k ?_
 intro K4 hK4
 refine HT_region ?_
 refine HL_cons rfl ?_
 refine o_move ?_
 try dsimp only [putL, setL, evL, getL]
 refine HL_cons rfl ?_
 refine o_bin rfl rfl rfl ?_
 try dsimp only [putL, setL, evL, getL]
 refine HL_nil ?_
 refine hK4 _ _ ?_
 rcases Bool.eq_false_or_eq_true (decide ((IntKind.i64.wrap (p1 - (p0.length : Int))) < 0)) with hb5 | hb5
 ·replace H := iteT hb5 H
  refine HT_true (congrArg Value.bool hb5) ?_
  refine HT_seq_k ?_
  intro K6 hK6
  refine HT_region ?_
  refine HL_cons rfl ?_
  refine o_assign ?_
  try dsimp only [putL, setL, evL, getL]
  refine HL_nil ?_
  refine hK6 _ _ ?_
  refine HT_ret ?_
  exact hQr _ _ [.int .i64 (-1)] ⟨rfl, trivial⟩ (retH (fun r => laws_szReS.post sb s F0 r _ _) (show some _ = some r from H) ⟨rfl, hH⟩)
 ·replace H := iteF hb5 H
  refine HT_false (congrArg Value.bool hb5) ?_
  refine HT_skip ?_
  refine hK3 _ _ ?_
  refine HT_seq_k ?_
  intro K7 hK7
  refine HT_seq_k ?_
  intro K8 hK8
  refine HT_region ?_
  refine HL_cons rfl ?_
  refine o_assign ?_
  try dsimp only [putL, setL, evL, getL]
  refine HL_nil ?_
  refine hK8 _ _ ?_
  refine joinH H fun G9 hG9 H => ?_
  refine HT_toK (fun l' s' => ∃ (x48 : Int), G9 (.go x48) = some r ∧ l' = [.slice A0p p0.length c0p, .int .i64 x48, undef, undef, getL l' 4, getL l' 5, .int .i64 p1, .slice A0p p0.length c0p, .int .i64 (p0.length : Int), .int .i64 (IntKind.i64.wrap (p1 - (p0.length : Int))), .int .i64 (IntKind.i64.wrap (p1 - (p0.length : Int))), .bool (decide ((IntKind.i64.wrap (p1 - (p0.length : Int))) < 0)), getL l' 12, getL l' 13, getL l' 14, getL l' 15, getL l' 16, getL l' 17, getL l' 18, getL l' 19, getL l' 20, getL l' 21, getL l' 22, getL l' 23, getL l' 24, getL l' 25, undef] ∧ Hp sb s F0 s' []) ?_ ?_
  ·intro K9 hK9
   refine HT_block ?_
   refine HT_loopK (fun kf l' s' => ∃ (x60 : Int) (x61 : Int), (laws_szReS.l1 p0 kf x60 x61).bind G9 = some r ∧ l' = [.slice A0p p0.length c0p, .int .i64 x60, undef, undef, getL l' 4, .int .i64 x61, .int .i64 p1, .slice A0p p0.length c0p, .int .i64 (p0.length : Int), .int .i64 (IntKind.i64.wrap (p1 - (p0.length : Int))), .int .i64 (IntKind.i64.wrap (p1 - (p0.length : Int))), .bool (decide ((IntKind.i64.wrap (p1 - (p0.length : Int))) < 0)), getL l' 12, getL l' 13, getL l' 14, getL l' 15, getL l' 16, getL l' 17, getL l' 18, getL l' 19, getL l' 20, getL l' 21, getL l' 22, getL l' 23, getL l' 24, getL l' 25, undef] ∧ Hp sb s F0 s' []) ((((p0.length : Int)) - (0)).toNat + 2) ⟨IntKind.i64.wrap (p1 - (p0.length : Int)), 0, H, rfl, hH⟩ ?_
   rintro kf l' s75 ⟨x60, x61, H, hl, hH⟩ K75 hK75
   generalize getL l' 4 = j4, getL l' 12 = j12, getL l' 13 = j13, getL l' 14 = j14, getL l' 15 = j15, getL l' 16 = j16, getL l' 17 = j17, getL l' 18 = j18, getL l' 19 = j19, getL l' 20 = j20, getL l' 21 = j21, getL l' 22 = j22, getL l' 23 = j23, getL l' 24 = j24, getL l' 25 = j25 at hl
   subst hl
   cases kf with
   | zero => simp [laws_szReS.l1] at H
   | succ kf =>
    rw [laws_szReS.l1] at H
    refine HT_seq_k ?_
    intro K76 hK76
    refine HT_seq_k ?_
    intro K77 hK77
    refine HT_region ?_
    refine HL_cons rfl ?_
    refine o_move ?_
    try dsimp only [putL, setL, evL, getL]
    refine HL_cons rfl ?_
    refine o_move ?_
    try dsimp only [putL, setL, evL, getL]
    refine HL_cons rfl ?_
    refine o_len rfl Try.underlying50 ?_
    try dsimp only [putL, setL, evL, getL]
    refine HL_cons rfl ?_
    refine o_bin rfl rfl rfl ?_
    try dsimp only [putL, setL, evL, getL]
    refine HL_nil ?_
    refine hK77 _ _ ?_
    rcases Bool.eq_false_or_eq_true (decide (x61 < (p0.length : Int))) with hb78 | hb78
    ·replace H := iteT hb78 H
     refine HT_true (congrArg Value.bool hb78) ?_
     refine HT_skip ?_
     refine hK76 _ _ ?_
     refine HT_seq_k ?_
     intro K79 hK79
     refine HT_block ?_
     refine HT_seq_k ?_
     intro K80 hK80
     refine HT_region ?_
     refine HL_cons rfl ?_
     refine o_move ?_
     try dsimp only [putL, setL, evL, getL]
     refine HL_cons rfl ?_
     refine o_move ?_
     try dsimp only [putL, setL, evL, getL]
     replace H := headE H
     obtain ⟨u81, hu81, H⟩ := H
     obtain ⟨b81, o81, cs81, hr81, hh81, hel81⟩ := Rd.elb HRp0 hu81
     obtain ⟨_, _, rfl, rfl, ⟨A82, c82, rfl, D82⟩⟩ := hr81
     refine HL_cons rfl ?_
     refine hel81 s75 rfl rfl Try.underlying50 tI135 ?_
     try dsimp only [putL, setL, evL, getL]
     refine HL_cons rfl ?_
     refine o_loads' [.int .i64 u81.1, .slice A82 u81.2.length c82] rfl Try.underlying135 rfl tI135 rfl (fun j v hj => (hh81 hH.bs.mono) j v hj) ?_
     try dsimp only [putL, setL, evL, getL]
     refine HL_cons rfl ?_
     refine o_move ?_
     try dsimp only [putL, setL, evL, getL]
     replace H := headE H
     obtain ⟨u83, hu83, H⟩ := H
     refine HL_cons rfl ?_
     refine o_call (args := #[.agg #[.int .i64 u81.1, .slice A82 u81.2.length c82], .int .i64 x60]) Try.func127 rfl rfl rfl (laws_szRe.ok sb s75 no u81.1 A82 c82 u81.2 x60 D82 (Hp.own hH.bs) _ hu83) ?_
     rintro _ s83 ⟨rfl, hD⟩
     replace hH := hH.back0 hD (Up.refl _ _ _)
     clear hD
     dsimp only [addC, setC, rmC, selC, getC] at hH
     try dsimp only [putL, setL, evL, getL]
     refine HL_cons rfl ?_
     refine o_assign ?_
     try dsimp only [putL, setL, evL, getL]
     refine HL_nil ?_
     refine hK80 _ _ ?_
     refine HT_seq_k ?_
     intro K84 hK84
     refine HT_region ?_
     refine HL_cons rfl ?_
     refine o_move ?_
     try dsimp only [putL, setL, evL, getL]
     refine HL_cons rfl ?_
     refine o_bin rfl rfl rfl ?_
     try dsimp only [putL, setL, evL, getL]
     refine HL_nil ?_
     refine hK84 _ _ ?_
     rcases Bool.eq_false_or_eq_true (decide (u83 < 0)) with hb85 | hb85
     ·replace H := iteT hb85 H
      refine HT_true (congrArg Value.bool hb85) ?_
      refine HT_seq_k ?_
      intro K86 hK86
      refine HT_region ?_
      refine HL_cons rfl ?_
      refine o_assign ?_
      try dsimp only [putL, setL, evL, getL]
      refine HL_nil ?_
      refine hK86 _ _ ?_
      refine HT_ret ?_
      replace H := escH (fun z hz => hG9 _ hz) H
      exact hQr _ _ [.int .i64 (-1)] ⟨rfl, trivial⟩ (retH (fun r => laws_szReS.post sb s F0 r _ _) (show some _ = some r from H) ⟨rfl, hH⟩)
     ·replace H := iteF hb85 H
      refine HT_false (congrArg Value.bool hb85) ?_
      refine HT_skip ?_
      refine hK79 _ _ ?_
      refine HT_region ?_
      refine HL_cons rfl ?_
      refine o_move ?_
      try dsimp only [putL, setL, evL, getL]
      refine HL_cons rfl ?_
      refine o_bin rfl rfl rfl ?_
      try dsimp only [putL, setL, evL, getL]
      refine HL_cons rfl ?_
      refine o_assign ?_
      try dsimp only [putL, setL, evL, getL]
      refine HL_nil ?_
      exact hK75 _ _ ⟨kf, Nat.lt_succ_self kf, u83, IntKind.i64.wrap (x61 + 1), H, rfl, hH⟩
    ·replace H := iteF hb78 H
     refine HT_false (congrArg Value.bool hb78) ?_
     refine HT_exit ?_
     exact hK9 _ _ ⟨x60, H, rfl, hH⟩
  ·rintro l' s87 ⟨x48, H, hl, hH⟩
   generalize getL l' 4 = j4, getL l' 5 = j5, getL l' 12 = j12, getL l' 13 = j13, getL l' 14 = j14, getL l' 15 = j15, getL l' 16 = j16, getL l' 17 = j17, getL l' 18 = j18, getL l' 19 = j19, getL l' 20 = j20, getL l' 21 = j21, getL l' 22 = j22, getL l' 23 = j23, getL l' 24 = j24, getL l' 25 = j25 at hl
   subst hl
   replace H := hG9 _ H
   try dsimp only at H
   refine hK7 _ _ ?_
   refine HT_seq_k ?_
   intro K88 hK88
   refine HT_region ?_
   refine HL_cons rfl ?_
   refine o_move ?_
   try dsimp only [putL, setL, evL, getL]
   refine HL_cons rfl ?_
   refine o_assign ?_
   try dsimp only [putL, setL, evL, getL]
   refine HL_nil ?_
   refine hK88 _ _ ?_
   refine HT_ret ?_
   exact hQr _ _ [.int .i64 x48] ⟨rfl, trivial⟩ (retH (fun r => laws_szReS.post sb s F0 r _ _) (show some _ = some r from H) ⟨rfl, hH⟩)
def laws_toIntS.l1 (p0 : List (Int)) : Nat → (List (Int)) → Int → Option (List (Int))
 | 0, _, _ => none
 | kf + 1, x41, x42 => if (decide (x42 < (p0.length : Int))) = true then ((rd? p0 x42).bind fun u57 => (rd? x41 x42).bind fun u58 => (st? x41 x42 u57).bind fun x59 => laws_toIntS.l1 p0 kf x59 (IntKind.i64.wrap (x42 + 1))) else (some x41)
def laws_toIntS.f (p0 : List (Int)) : Option (List (Int)) := (mk? 17592186044416 0 (p0.length : Int)).bind fun x3 => (laws_toIntS.l1 p0 ((((p0.length : Int)) - (0)).toNat + 2) x3 0).bind fun (o : (List (Int))) => match o with | x33 => (some x33)
def laws_toIntS.post (sb s : St) (F0 : Fp) (r : (List (Int))) : Value → St → Prop := fun v s' => ∃ (A0 : Option Addr) (c0 : Nat), v = .slice A0 r.length c0 ∧ Hp sb s F0 s' [Ck.ol OI 3 A0 c0 r]
set_option maxRecDepth 100000 in
set_option maxHeartbeats 4000000 in
theorem laws_toIntS.ok (sb s : St) (F0 : Fp) (A0p : Option Addr) (c0p : Nat) (p0 : List (Int)) (HRp0 : Rd KI sb A0p c0p p0) (hH : Hp sb s F0 s []) (r : (List (Int))) (H : laws_toIntS.f p0 = some r) : GCall Try.prog 61 #[.slice A0p p0.length c0p] s (laws_toIntS.post sb s F0 r) := by
 refine GCall_ofk [.tmp 2] [.slice A0p p0.length c0p, undef, undef, undef, undef, undef, undef, undef, undef, undef, undef, undef, undef, undef, undef, undef, undef, undef, undef, undef, undef, undef] Try.func61 rfl rfl rfl ?_
 intro w Q hQr hQn hQp
 replace H := topE H
 unfold laws_toIntS.f at H
 refine HT_seq_k ?_
 intro K1 hK1
 refine HT_region ?_
 refine HL_cons rfl ?_
 refine o_assign ?_
 try dsimp only [putL, setL, evL, getL]
 refine HL_nil ?_
 refine hK1 _ _ ?_
 refine HT_seq_k ?_
 intro K2 hK2
 refine HT_region ?_
 refine HL_cons rfl ?_
 refine o_move ?_
 try dsimp only [putL, setL, evL, getL]
 refine HL_cons rfl ?_
 refine o_len rfl Try.underlying24 ?_
 try dsimp only [putL, setL, evL, getL]
 replace H := headE H
 obtain ⟨x3, hx3, H⟩ := H
 refine HL_cons rfl ?_
 refine o_makeH (K := KI) (O := OI) (x0 := 0) hH rfl Try.underlying24 tI3 rfl (by decide) (by decide) (by decide) (Own0.fl fun _ => rfl) hx3 ?_
 intro A3 c3 s3 hH' hG
 replace hH : Hp sb s F0 s3 [Ck.ol OI 3 A3 c3 x3] := hH'
 clear hH' hG
 try dsimp only [putL, setL, evL, getL]
 refine HL_cons rfl ?_
 refine o_assign ?_
 try dsimp only [putL, setL, evL, getL]
 refine HL_nil ?_
 refine hK2 _ _ ?_
 refine HT_seq_k ?_
 intro K4 hK4
 refine HT_seq_k ?_
 intro K5 hK5
 refine HT_region ?_
 refine HL_cons rfl ?_
 refine o_assign ?_
 try dsimp only [putL, setL, evL, getL]
 refine HL_nil ?_
 refine hK5 _ _ ?_
 refine joinH H fun G6 hG6 H => ?_
 refine HT_toK (fun l' s' => ∃ (x33 : List (Int)), G6 x33 = some r ∧ l' = [.slice A0p p0.length c0p, undef, .slice none 0 0, .slice A3 x3.length c3, getL l' 4, .slice A0p p0.length c0p, .int .i64 (p0.length : Int), .slice A3 x3.length c3, getL l' 8, getL l' 9, getL l' 10, getL l' 11, getL l' 12, getL l' 13, getL l' 14, getL l' 15, getL l' 16, getL l' 17, getL l' 18, getL l' 19, getL l' 20, undef] ∧ Hp sb s F0 s' [Ck.ol OI 3 A3 c3 x33] ∧ x33.length = x3.length) ?_ ?_
 ·intro K6 hK6
  refine HT_block ?_
  refine HT_loopK (fun kf l' s' => ∃ (x41 : List (Int)) (x42 : Int), (laws_toIntS.l1 p0 kf x41 x42).bind G6 = some r ∧ l' = [.slice A0p p0.length c0p, undef, .slice none 0 0, .slice A3 x3.length c3, .int .i64 x42, .slice A0p p0.length c0p, .int .i64 (p0.length : Int), .slice A3 x3.length c3, getL l' 8, getL l' 9, getL l' 10, getL l' 11, getL l' 12, getL l' 13, getL l' 14, getL l' 15, getL l' 16, getL l' 17, getL l' 18, getL l' 19, getL l' 20, undef] ∧ Hp sb s F0 s' [Ck.ol OI 3 A3 c3 x41] ∧ x41.length = x3.length) ((((p0.length : Int)) - (0)).toNat + 2) ⟨x3, 0, H, rfl, hH, rfl⟩ ?_
  rintro kf l' s52 ⟨x41, x42, H, hl, hH, hl41⟩ K52 hK52
  generalize getL l' 8 = j8, getL l' 9 = j9, getL l' 10 = j10, getL l' 11 = j11, getL l' 12 = j12, getL l' 13 = j13, getL l' 14 = j14, getL l' 15 = j15, getL l' 16 = j16, getL l' 17 = j17, getL l' 18 = j18, getL l' 19 = j19, getL l' 20 = j20 at hl
  subst hl
  cases kf with
  | zero => simp [laws_toIntS.l1] at H
  | succ kf =>
   rw [laws_toIntS.l1] at H
   refine HT_seq_k ?_
   intro K53 hK53
   refine HT_seq_k ?_
   intro K54 hK54
   refine HT_region ?_
   refine HL_cons rfl ?_
   refine o_move ?_
   try dsimp only [putL, setL, evL, getL]
   refine HL_cons rfl ?_
   refine o_move ?_
   try dsimp only [putL, setL, evL, getL]
   refine HL_cons rfl ?_
   refine o_len rfl Try.underlying24 ?_
   try dsimp only [putL, setL, evL, getL]
   refine HL_cons rfl ?_
   refine o_bin rfl rfl rfl ?_
   try dsimp only [putL, setL, evL, getL]
   refine HL_nil ?_
   refine hK54 _ _ ?_
   rcases Bool.eq_false_or_eq_true (decide (x42 < (p0.length : Int))) with hb55 | hb55
   ·replace H := iteT hb55 H
    refine HT_true (congrArg Value.bool hb55) ?_
    refine HT_skip ?_
    refine hK53 _ _ ?_
    refine HT_seq_k ?_
    intro K56 hK56
    refine HT_block ?_
    refine HT_region ?_
    refine HL_cons rfl ?_
    refine o_move ?_
    try dsimp only [putL, setL, evL, getL]
    refine HL_cons rfl ?_
    refine o_move ?_
    try dsimp only [putL, setL, evL, getL]
    refine HL_cons rfl ?_
    refine o_move ?_
    try dsimp only [putL, setL, evL, getL]
    refine HL_cons rfl ?_
    refine o_move ?_
    try dsimp only [putL, setL, evL, getL]
    replace H := headE H
    obtain ⟨u57, hu57, H⟩ := H
    obtain ⟨b57, o57, cs57, hr57, hh57, hel57⟩ := Rd.elb HRp0 hu57
    obtain rfl := hr57
    refine HL_cons rfl ?_
    refine hel57 s52 rfl rfl Try.underlying24 tI3 ?_
    try dsimp only [putL, setL, evL, getL]
    refine HL_cons rfl ?_
    refine o_load' rfl Try.underlying3 rfl ((hh57 hH.bs.mono) 0 _ rfl) ?_
    try dsimp only [putL, setL, evL, getL]
    replace H := headE H
    obtain ⟨u58, hu58, H⟩ := H
    obtain ⟨b58, o58, cs58, hA58, hr58, hh58, hel58⟩ := hH.elo 0 rfl hu58
    obtain rfl := hr58
    refine HL_cons rfl ?_
    refine hel58 s52 (sliceLen hl41) rfl Try.underlying24 tI3 ?_
    try dsimp only [putL, setL, evL, getL]
    replace H := headE H
    obtain ⟨x59, hx59, H⟩ := H
    refine HL_cons rfl ?_
    refine o_setF (vs := [.int .i64 u57]) (u := u57) hH 0 rfl rfl rfl rfl rfl tI3 hA58 hx59 (Ent.own (Ent.flat rfl)) ?_
    intro s59 hH'
    have hl59 := (st?_len hx59).trans hl41
    replace hH : Hp sb s F0 s59 [Ck.ol OI 3 A3 c3 x59] := hH'
    clear hH'
    try dsimp only [putL, setL, evL, getL]
    refine HL_nil ?_
    refine hK56 _ _ ?_
    refine HT_region ?_
    refine HL_cons rfl ?_
    refine o_move ?_
    try dsimp only [putL, setL, evL, getL]
    refine HL_cons rfl ?_
    refine o_bin rfl rfl rfl ?_
    try dsimp only [putL, setL, evL, getL]
    refine HL_cons rfl ?_
    refine o_assign ?_
    try dsimp only [putL, setL, evL, getL]
    refine HL_nil ?_
    exact hK52 _ _ ⟨kf, Nat.lt_succ_self kf, x59, IntKind.i64.wrap (x42 + 1), H, rfl, hH, hl59⟩
   ·replace H := iteF hb55 H
    refine HT_false (congrArg Value.bool hb55) ?_
    refine HT_exit ?_
    exact hK6 _ _ ⟨x41, H, rfl, hH, hl41⟩
 ·rintro l' s60 ⟨x33, H, hl, hH, hl33⟩
  generalize getL l' 4 = j4, getL l' 8 = j8, getL l' 9 = j9, getL l' 10 = j10, getL l' 11 = j11, getL l' 12 = j12, getL l' 13 = j13, getL l' 14 = j14, getL l' 15 = j15, getL l' 16 = j16, getL l' 17 = j17, getL l' 18 = j18, getL l' 19 = j19, getL l' 20 = j20 at hl
  subst hl
  replace H := hG6 _ H
  try dsimp only at H
  refine hK4 _ _ ?_
  refine HT_seq_k ?_
  intro K61 hK61
  refine HT_region ?_
  refine HL_cons rfl ?_
  refine o_move ?_
  try dsimp only [putL, setL, evL, getL]
  refine HL_cons rfl ?_
  refine o_assign ?_
  try dsimp only [putL, setL, evL, getL]
  refine HL_nil ?_
  refine hK61 _ _ ?_
  refine HT_ret ?_
  exact hQr _ _ [.slice A3 x3.length c3] ⟨rfl, trivial⟩ (retH (fun r => laws_toIntS.post sb s F0 r _ _) (show some _ = some r from H) ⟨A3, c3, (by first | (rw [hl33]; first | done | rfl) | rfl), hH⟩)
def laws_toRe.f (p0_0 : Int) (p0_1 : List (Int)) : Option (Int × (List (Int))) := (laws_toIntS.f p0_1).bind fun u9 => some (p0_0, u9)
def laws_toRe.post (sb s : St) (F0 : Fp) (r : Int × (List (Int))) : Value → St → Prop := fun v s' => ∃ (A1 : Option Addr) (c1 : Nat), v = .agg #[.int .i64 r.1, .slice A1 r.2.length c1] ∧ Hp sb s F0 s' [Ck.ol OI 3 A1 c1 r.2]
set_option maxRecDepth 100000 in
set_option maxHeartbeats 4000000 in
theorem laws_toRe.ok (sb s : St) (F0 : Fp) (p0_0 : Int) (A0_1p : Option Addr) (c0_1p : Nat) (p0_1 : List (Int)) (HRp0_1 : Rd KI sb A0_1p c0_1p p0_1) (hH : Hp sb s F0 s []) (r : Int × (List (Int))) (H : laws_toRe.f p0_0 p0_1 = some r) : GCall Try.prog 129 #[.agg #[.int .i64 p0_0, .slice A0_1p p0_1.length c0_1p]] s (laws_toRe.post sb s F0 r) := by
 refine GCall_ofk [.cell 2 139] [.agg #[.int .i64 p0_0, .slice A0_1p p0_1.length c0_1p], undef, undef, undef, undef, undef, undef, undef, undef, undef, undef, undef] Try.func129 rfl rfl rfl ?_
 intro w Q hQr hQn hQp
 replace H := topE H
 unfold laws_toRe.f at H
 refine HT_seq_k ?_
 intro K1 hK1
 refine HT_region ?_
 refine HL_cons rfl ?_
 refine o_boxH hH rfl ?_
 intro b2 s2 hH' hG
 replace hH : Hp sb s F0 s2 [Ck.ov b2 [.int .i64 p0_0, .slice A0_1p p0_1.length c0_1p] 135] := hH'
 clear hH' hG
 try dsimp only [putL, setL, evL, getL]
 refine HL_cons rfl ?_
 refine o_allocH hH tI139 ?_
 intro b3 s3 hH' hG
 replace hH : Hp sb s F0 s3 [Ck.ov b2 [.int .i64 p0_0, .slice A0_1p p0_1.length c0_1p] 135, Ck.ov b3 [.int .i64 0, .slice none 0 0] 139] := hH'
 clear hH' hG
 try dsimp only [putL, setL, evL, getL]
 refine HL_nil ?_
 refine hK1 _ _ ?_
 refine HT_seq_k ?_
 intro K4 hK4
 refine HT_region ?_
 refine HL_cons rfl ?_
 refine o_allocH hH tI139 ?_
 intro b5 s5 hH' hG
 replace hH : Hp sb s F0 s5 [Ck.ov b2 [.int .i64 p0_0, .slice A0_1p p0_1.length c0_1p] 135, Ck.ov b3 [.int .i64 0, .slice none 0 0] 139, Ck.ov b5 [.int .i64 0, .slice none 0 0] 139] := hH'
 clear hH' hG
 try dsimp only [putL, setL, evL, getL]
 refine HL_nil ?_
 refine hK4 _ _ ?_
 refine HT_seq_k ?_
 intro K6 hK6
 refine HT_region ?_
 refine HL_cons rfl ?_
 refine o_faddr' (ft := 3) (off := 0) rfl Try.underlying135 rfl tI3 (by decide) ?_
 try dsimp only [putL, setL, evL, getL]
 refine HL_cons rfl ?_
 refine o_load' rfl Try.underlying3 rfl (hH.hasv 0 rfl rfl) ?_
 try dsimp only [putL, setL, evL, getL]
 refine HL_cons rfl ?_
 refine o_faddr' (ft := 3) (off := 0) rfl Try.underlying139 rfl tI3 (by decide) ?_
 try dsimp only [putL, setL, evL, getL]
 refine HL_cons rfl ?_
 refine o_stvH (vs := [.int .i64 p0_0]) (us' := [.int .i64 p0_0, .slice none 0 0]) hH 2 rfl rfl rfl rfl rfl tI3 rfl (List.cons_ne_nil _ _) rfl rfl rfl ?_
 intro s7 hH'
 replace hH : Hp sb s F0 s7 [Ck.ov b2 [.int .i64 p0_0, .slice A0_1p p0_1.length c0_1p] 135, Ck.ov b3 [.int .i64 0, .slice none 0 0] 139, Ck.ov b5 [.int .i64 p0_0, .slice none 0 0] 139] := hH'
 clear hH'
 try dsimp only [putL, setL, evL, getL]
 refine HL_nil ?_
 refine hK6 _ _ ?_
 refine HT_seq_k ?_
 intro K8 hK8
 refine HT_region ?_
 refine HL_cons rfl ?_
 refine o_faddr' (ft := 24) (off := 1) rfl Try.underlying135 rfl tI24 (by decide) ?_
 try dsimp only [putL, setL, evL, getL]
 refine HL_cons rfl ?_
 refine o_load' rfl Try.underlying24 rfl (hH.hasv 0 rfl rfl) ?_
 try dsimp only [putL, setL, evL, getL]
 replace H := headE H
 obtain ⟨u9, hu9, H⟩ := H
 refine HL_cons rfl ?_
 refine o_call (args := #[.slice A0_1p p0_1.length c0_1p]) Try.func61 rfl rfl rfl (laws_toIntS.ok sb s7 no A0_1p c0_1p p0_1 HRp0_1 (Hp.own hH.bs) _ hu9) ?_
 rintro _ s9 ⟨A10, c10, rfl, hD⟩
 replace hH := hH.back0 hD (Up.refl _ _ _)
 clear hD
 dsimp only [addC, setC, rmC, selC, getC] at hH
 try dsimp only [putL, setL, evL, getL]
 refine HL_cons rfl ?_
 refine o_faddr' (ft := 24) (off := 1) rfl Try.underlying139 rfl tI24 (by decide) ?_
 try dsimp only [putL, setL, evL, getL]
 refine HL_cons rfl ?_
 refine o_stvH (vs := [.slice A10 u9.length c10]) (us' := [.int .i64 p0_0, .slice A10 u9.length c10]) hH 2 rfl rfl rfl rfl rfl tI24 rfl (List.cons_ne_nil _ _) rfl rfl rfl ?_
 intro s11 hH'
 replace hH : Hp sb s F0 s11 [Ck.ov b2 [.int .i64 p0_0, .slice A0_1p p0_1.length c0_1p] 135, Ck.ov b3 [.int .i64 0, .slice none 0 0] 139, Ck.ov b5 [.int .i64 p0_0, .slice A10 u9.length c10] 139, Ck.ol OI 3 A10 c10 u9] := hH'
 clear hH'
 try dsimp only [putL, setL, evL, getL]
 refine HL_nil ?_
 refine hK8 _ _ ?_
 refine HT_seq_k ?_
 intro K12 hK12
 refine HT_region ?_
 refine HL_cons rfl ?_
 refine o_loads' [.int .i64 p0_0, .slice A10 u9.length c10] rfl Try.underlying139 rfl tI139 rfl (hH.partv 2 rfl (0) [.int .i64 p0_0, .slice A10 u9.length c10] rfl) ?_
 try dsimp only [putL, setL, evL, getL]
 refine HL_cons rfl ?_
 refine o_stvH (vs := [.int .i64 p0_0, .slice A10 u9.length c10]) (us' := [.int .i64 p0_0, .slice A10 u9.length c10]) hH 1 rfl rfl rfl rfl rfl tI139 rfl (List.cons_ne_nil _ _) rfl rfl rfl ?_
 intro s13 hH'
 replace hH : Hp sb s F0 s13 [Ck.ov b2 [.int .i64 p0_0, .slice A0_1p p0_1.length c0_1p] 135, Ck.ov b3 [.int .i64 p0_0, .slice A10 u9.length c10] 139, Ck.ov b5 [.int .i64 p0_0, .slice A10 u9.length c10] 139, Ck.ol OI 3 A10 c10 u9] := hH'
 clear hH'
 try dsimp only [putL, setL, evL, getL]
 refine HL_nil ?_
 refine hK12 _ _ ?_
 refine HT_ret ?_
 exact hQr _ _ [.agg #[.int .i64 p0_0, .slice A10 u9.length c10]] ⟨ResV.cells rfl Try.underlying139 rfl tI139 (hH.var 1 rfl) rfl, trivial⟩ (retH (fun r => laws_toRe.post sb s F0 r _ _) (show some _ = some r from H) ⟨A10, c10, rfl, hH.sel [3] (by decide)⟩)
def laws_toReS.l1 (p0 : List ((Int) × (List (Int)))) : Nat → (List ((Int) × (List (Int)))) → Int → Option (List ((Int) × (List (Int))))
 | 0, _, _ => none
 | kf + 1, x57, x58 => if (decide (x58 < (p0.length : Int))) = true then ((rd? p0 x58).bind fun u77 => (laws_toRe.f u77.1 u77.2).bind fun u79 => (rd? x57 x58).bind fun u81 => (st? x57 x58 (u79.1, u79.2)).bind fun x83 => laws_toReS.l1 p0 kf x83 (IntKind.i64.wrap (x58 + 1))) else (some x57)
def laws_toReS.f (p0 : List ((Int) × (List (Int)))) : Option (List ((Int) × (List (Int)))) := (mk? 4398046511104 (0, []) (p0.length : Int)).bind fun x3 => (laws_toReS.l1 p0 ((((p0.length : Int)) - (0)).toNat + 2) x3 0).bind fun (o : (List ((Int) × (List (Int))))) => match o with | x45 => (some x45)
def laws_toReS.post (sb s : St) (F0 : Fp) (r : (List ((Int) × (List (Int))))) : Value → St → Prop := fun v s' => ∃ (A0 : Option Addr) (c0 : Nat), v = .slice A0 r.length c0 ∧ Hp sb s F0 s' [Ck.ol OS139 139 A0 c0 r]
set_option maxRecDepth 100000 in
set_option maxHeartbeats 4000000 in
theorem laws_toReS.ok (sb s : St) (F0 : Fp) (A0p : Option Addr) (c0p : Nat) (p0 : List ((Int) × (List (Int)))) (HRp0 : Rd KS135 sb A0p c0p p0) (hH : Hp sb s F0 s []) (r : (List ((Int) × (List (Int))))) (H : laws_toReS.f p0 = some r) : GCall Try.prog 40 #[.slice A0p p0.length c0p] s (laws_toReS.post sb s F0 r) := by
 refine GCall_ofk [.tmp 2] [.slice A0p p0.length c0p, undef, undef, undef, undef, undef, undef, undef, undef, undef, undef, undef, undef, undef, undef, undef, undef, undef, undef, undef, undef, undef, undef] Try.func40 rfl rfl rfl ?_
 intro w Q hQr hQn hQp
 replace H := topE H
 unfold laws_toReS.f at H
 refine HT_seq_k ?_
 intro K1 hK1
 refine HT_region ?_
 refine HL_cons rfl ?_
 refine o_assign ?_
 try dsimp only [putL, setL, evL, getL]
 refine HL_nil ?_
 refine hK1 _ _ ?_
 refine HT_seq_k ?_
 intro K2 hK2
 refine HT_region ?_
 refine HL_cons rfl ?_
 refine o_move ?_
 try dsimp only [putL, setL, evL, getL]
 refine HL_cons rfl ?_
 refine o_len rfl Try.underlying50 ?_
 try dsimp only [putL, setL, evL, getL]
 replace H := headE H
 obtain ⟨x3, hx3, H⟩ := H
 refine HL_cons rfl ?_
 refine o_makeH (K := KS139) (O := OS139) (x0 := (0, [])) hH rfl Try.underlying57 tI139 rfl (by decide) (by decide) (by decide) (Own0.pair (v1 := [.int .i64 0]) (v2 := [.slice none 0 0]) (x1 := 0) (x2 := []) (Own0.fl fun _ => rfl) Own0.nil) hx3 ?_
 intro A3 c3 s3 hH' hG
 replace hH : Hp sb s F0 s3 [Ck.ol OS139 139 A3 c3 x3] := hH'
 clear hH' hG
 try dsimp only [putL, setL, evL, getL]
 refine HL_cons rfl ?_
 refine o_assign ?_
 try dsimp only [putL, setL, evL, getL]
 refine HL_nil ?_
 refine hK2 _ _ ?_
 refine HT_seq_k ?_
 intro K4 hK4
 refine HT_seq_k ?_
 intro K5 hK5
 refine HT_region ?_
 refine HL_cons rfl ?_
 refine o_assign ?_
 try dsimp only [putL, setL, evL, getL]
 refine HL_nil ?_
 refine hK5 _ _ ?_
 refine joinH H fun G6 hG6 H => ?_
 refine HT_toK (fun l' s' => ∃ (x45 : List ((Int) × (List (Int)))), G6 x45 = some r ∧ l' = [.slice A0p p0.length c0p, undef, .slice none 0 0, .slice A3 x3.length c3, getL l' 4, .slice A0p p0.length c0p, .int .i64 (p0.length : Int), .slice A3 x3.length c3, getL l' 8, getL l' 9, getL l' 10, getL l' 11, getL l' 12, getL l' 13, getL l' 14, getL l' 15, getL l' 16, getL l' 17, getL l' 18, getL l' 19, getL l' 20, getL l' 21, undef] ∧ Hp sb s F0 s' [Ck.ol OS139 139 A3 c3 x45] ∧ x45.length = x3.length) ?_ ?_
 ·intro K6 hK6
  refine HT_block ?_
  refine HT_loopK (fun kf l' s' => ∃ (x57 : List ((Int) × (List (Int)))) (x58 : Int), (laws_toReS.l1 p0 kf x57 x58).bind G6 = some r ∧ l' = [.slice A0p p0.length c0p, undef, .slice none 0 0, .slice A3 x3.length c3, .int .i64 x58, .slice A0p p0.length c0p, .int .i64 (p0.length : Int), .slice A3 x3.length c3, getL l' 8, getL l' 9, getL l' 10, getL l' 11, getL l' 12, getL l' 13, getL l' 14, getL l' 15, getL l' 16, getL l' 17, getL l' 18, getL l' 19, getL l' 20, getL l' 21, undef] ∧ Hp sb s F0 s' [Ck.ol OS139 139 A3 c3 x57] ∧ x57.length = x3.length) ((((p0.length : Int)) - (0)).toNat + 2) ⟨x3, 0, H, rfl, hH, rfl⟩ ?_
  rintro kf l' s72 ⟨x57, x58, H, hl, hH, hl57⟩ K72 hK72
  generalize getL l' 8 = j8, getL l' 9 = j9, getL l' 10 = j10, getL l' 11 = j11, getL l' 12 = j12, getL l' 13 = j13, getL l' 14 = j14, getL l' 15 = j15, getL l' 16 = j16, getL l' 17 = j17, getL l' 18 = j18, getL l' 19 = j19, getL l' 20 = j20, getL l' 21 = j21 at hl
  subst hl
  cases kf with
  | zero => simp [laws_toReS.l1] at H
  | succ kf =>
   rw [laws_toReS.l1] at H
   refine HT_seq_k ?_
   intro K73 hK73
   refine HT_seq_k ?_
   intro K74 hK74
   refine HT_region ?_
   refine HL_cons rfl ?_
   refine o_move ?_
   try dsimp only [putL, setL, evL, getL]
   refine HL_cons rfl ?_
   refine o_move ?_
   try dsimp only [putL, setL, evL, getL]
   refine HL_cons rfl ?_
   refine o_len rfl Try.underlying50 ?_
   try dsimp only [putL, setL, evL, getL]
   refine HL_cons rfl ?_
   refine o_bin rfl rfl rfl ?_
   try dsimp only [putL, setL, evL, getL]
   refine HL_nil ?_
   refine hK74 _ _ ?_
   rcases Bool.eq_false_or_eq_true (decide (x58 < (p0.length : Int))) with hb75 | hb75
   ·replace H := iteT hb75 H
    refine HT_true (congrArg Value.bool hb75) ?_
    refine HT_skip ?_
    refine hK73 _ _ ?_
    refine HT_seq_k ?_
    intro K76 hK76
    refine HT_block ?_
    refine HT_region ?_
    refine HL_cons rfl ?_
    refine o_move ?_
    try dsimp only [putL, setL, evL, getL]
    refine HL_cons rfl ?_
    refine o_move ?_
    try dsimp only [putL, setL, evL, getL]
    refine HL_cons rfl ?_
    refine o_move ?_
    try dsimp only [putL, setL, evL, getL]
    refine HL_cons rfl ?_
    refine o_move ?_
    try dsimp only [putL, setL, evL, getL]
    replace H := headE H
    obtain ⟨u77, hu77, H⟩ := H
    obtain ⟨b77, o77, cs77, hr77, hh77, hel77⟩ := Rd.elb HRp0 hu77
    obtain ⟨_, _, rfl, rfl, ⟨A78, c78, rfl, D78⟩⟩ := hr77
    refine HL_cons rfl ?_
    refine hel77 s72 rfl rfl Try.underlying50 tI135 ?_
    try dsimp only [putL, setL, evL, getL]
    refine HL_cons rfl ?_
    refine o_loads' [.int .i64 u77.1, .slice A78 u77.2.length c78] rfl Try.underlying135 rfl tI135 rfl (fun j v hj => (hh77 hH.bs.mono) j v hj) ?_
    try dsimp only [putL, setL, evL, getL]
    replace H := headE H
    obtain ⟨u79, hu79, H⟩ := H
    refine HL_cons rfl ?_
    refine o_call (args := #[.agg #[.int .i64 u77.1, .slice A78 u77.2.length c78]]) Try.func129 rfl rfl rfl (laws_toRe.ok sb s72 no u77.1 A78 c78 u77.2 D78 (Hp.own hH.bs) _ hu79) ?_
    rintro _ s79 ⟨A80, c80, rfl, hD⟩
    replace hH := hH.back0 hD (Up.refl _ _ _)
    clear hD
    dsimp only [addC, setC, rmC, selC, getC] at hH
    try dsimp only [putL, setL, evL, getL]
    replace H := headE H
    obtain ⟨u81, hu81, H⟩ := H
    obtain ⟨b81, o81, cs81, hA81, hr81, hh81, hel81⟩ := hH.elo 0 rfl hu81
    obtain ⟨_, _, rfl, rfl, ⟨A82, c82, rfl, D82⟩⟩ := hr81
    refine HL_cons rfl ?_
    refine hel81 s79 (sliceLen hl57) rfl Try.underlying57 tI139 ?_
    try dsimp only [putL, setL, evL, getL]
    replace hH := hH.conv [1] (by decide) (d := Ck.el OS139 [.int .i64 u79.1, .slice A80 u79.2.length c80] (u79.1, u79.2)) (Ent.pair (v1 := [.int .i64 u79.1]) (v2 := [.slice A80 u79.2.length c80]) (x1 := u79.1) (x2 := u79.2) (Ent.flat rfl) Ent.sl)
    dsimp only [addC, setC, rmC, selC, getC] at hH
    replace H := headE H
    obtain ⟨x83, hx83, H⟩ := H
    refine HL_cons rfl ?_
    refine o_setD (u := (u79.1, u79.2)) hH 0 2 (by decide) rfl rfl rfl rfl rfl rfl tI139 hA81 hx83 ?_
    intro s83 hH'
    have hl83 := (st?_len hx83).trans hl57
    replace hH : Hp sb s F0 s83 [Ck.ol OS139 139 A3 c3 x83, Ck.emp, Ck.emp] := hH'
    clear hH'
    try dsimp only [putL, setL, evL, getL]
    refine HL_nil ?_
    refine hK76 _ _ ?_
    refine HT_region ?_
    refine HL_cons rfl ?_
    refine o_move ?_
    try dsimp only [putL, setL, evL, getL]
    refine HL_cons rfl ?_
    refine o_bin rfl rfl rfl ?_
    try dsimp only [putL, setL, evL, getL]
    refine HL_cons rfl ?_
    refine o_assign ?_
    try dsimp only [putL, setL, evL, getL]
    refine HL_nil ?_
    exact hK72 _ _ ⟨kf, Nat.lt_succ_self kf, x83, IntKind.i64.wrap (x58 + 1), H, rfl, hH.sel [0] (by decide), hl83⟩
   ·replace H := iteF hb75 H
    refine HT_false (congrArg Value.bool hb75) ?_
    refine HT_exit ?_
    exact hK6 _ _ ⟨x57, H, rfl, hH, hl57⟩
 ·rintro l' s84 ⟨x45, H, hl, hH, hl45⟩
  generalize getL l' 4 = j4, getL l' 8 = j8, getL l' 9 = j9, getL l' 10 = j10, getL l' 11 = j11, getL l' 12 = j12, getL l' 13 = j13, getL l' 14 = j14, getL l' 15 = j15, getL l' 16 = j16, getL l' 17 = j17, getL l' 18 = j18, getL l' 19 = j19, getL l' 20 = j20, getL l' 21 = j21 at hl
  subst hl
  replace H := hG6 _ H
  try dsimp only at H
  refine hK4 _ _ ?_
  refine HT_seq_k ?_
  intro K85 hK85
  refine HT_region ?_
  refine HL_cons rfl ?_
  refine o_move ?_
  try dsimp only [putL, setL, evL, getL]
  refine HL_cons rfl ?_
  refine o_assign ?_
  try dsimp only [putL, setL, evL, getL]
  refine HL_nil ?_
  refine hK85 _ _ ?_
  refine HT_ret ?_
  exact hQr _ _ [.slice A3 x3.length c3] ⟨rfl, trivial⟩ (retH (fun r => laws_toReS.post sb s F0 r _ _) (show some _ = some r from H) ⟨A3, c3, (by first | (rw [hl45]; first | done | rfl) | rfl), hH⟩)
def spec_l5Arity.f (p0 : Int) : Option Int := (if (p0 == 1) = true then (some (p0 == 1)) else (some (p0 == 2))).bind fun (o : Bool) => match o with | x40 => (if x40 = true then (some 0) else ((if (p0 == 6) = true then (some (p0 == 6)) else (some (p0 == 7))).bind fun (o : Bool) => match o with | x49 => (if x49 = true then (some 1) else ((if (p0 == 3) = true then (some (p0 == 3)) else (if (p0 == 4) = true then (some (p0 == 4)) else (some (p0 == 5)))).bind fun (o : Bool) => match o with | x60 => (if x60 = true then (some 2) else (some (-1)))))))
def spec_l5Arity.post (sb s : St) (F0 : Fp) (r : Int) : Value → St → Prop := fun v s' => v = .int .i64 r ∧ Hp sb s F0 s' []
set_option maxRecDepth 100000 in
set_option maxHeartbeats 4000000 in
theorem spec_l5Arity.ok (sb s : St) (F0 : Fp) (p0 : Int) (hH : Hp sb s F0 s []) (r : Int) (H : spec_l5Arity.f p0 = some r) : GCall Try.prog 223 #[.int .i64 p0] s (spec_l5Arity.post sb s F0 r) := by
 refine GCall_ofk [.tmp 2] [.int .i64 p0, undef, undef, undef, undef, undef, undef, undef, undef, undef, undef, undef, undef, undef] Try.func223 rfl rfl rfl ?_
 intro w Q hQr hQn hQp
 replace H := topE H
 unfold spec_l5Arity.f at H
 refine HT_seq_k ?_
 intro K1 hK1
 refine HT_region ?_
 refine HL_cons rfl ?_
 refine o_assign ?_
 try dsimp only [putL, setL, evL, getL]
 refine HL_nil ?_
 refine hK1 _ _ ?_
 refine HT_seq_k ?_
 intro K35 hK35
 refine HT_seq_k ?_
 intro K36 hK36
 refine HT_region ?_
 refine HL_cons rfl ?_
 refine o_move ?_
 try dsimp only [putL, setL, evL, getL]
 refine HL_nil ?_
 refine hK36 _ _ ?_
 refine HT_block ?_
 refine joinH H fun G37 hG37 H => ?_
 refine HT_joinK (fun l' s' => ∃ (x40 : Bool), G37 x40 = some r ∧ l' = [.int .i64 p0, undef, .int .i64 0, .int .i64 p0, .bool x40, getL l' 5, getL l' 6, undef, undef, undef, undef, undef, undef, undef] ∧ Hp sb s F0 s' []) ?_ ?_
 ·intro K37 hK37
  refine HT_seq_k ?_
  intro K41 hK41
  refine HT_region ?_
  refine HL_cons rfl ?_
  refine o_bin rfl rfl rfl ?_
  try dsimp only [putL, setL, evL, getL]
  refine HL_cons rfl ?_
  refine o_assign ?_
  try dsimp only [putL, setL, evL, getL]
  refine HL_nil ?_
  refine hK41 _ _ ?_
  rcases Bool.eq_false_or_eq_true (p0 == 1) with hb42 | hb42
  ·replace H := iteT hb42 H
   refine HT_true (congrArg Value.bool hb42) ?_
   refine HT_skip ?_
   exact hK37 _ _ ⟨p0 == 1, H, rfl, hH⟩
  ·replace H := iteF hb42 H
   refine HT_false (congrArg Value.bool hb42) ?_
   refine HT_region ?_
   refine HL_cons rfl ?_
   refine o_bin rfl rfl rfl ?_
   try dsimp only [putL, setL, evL, getL]
   refine HL_cons rfl ?_
   refine o_assign ?_
   try dsimp only [putL, setL, evL, getL]
   refine HL_nil ?_
   exact hK37 _ _ ⟨p0 == 2, H, rfl, hH⟩
 ·rintro l' s43 ⟨x40, H, hl, hH⟩
  generalize getL l' 5 = j5, getL l' 6 = j6 at hl
  subst hl
  replace H := hG37 _ H
  try dsimp only at H
  rcases Bool.eq_false_or_eq_true x40 with hb44 | hb44
  ·replace H := iteT hb44 H
   refine HT_true (congrArg Value.bool hb44) ?_
   refine HT_seq_k ?_
   intro K45 hK45
   refine HT_region ?_
   refine HL_cons rfl ?_
   refine o_assign ?_
   try dsimp only [putL, setL, evL, getL]
   refine HL_nil ?_
   refine hK45 _ _ ?_
   refine HT_ret ?_
   exact hQr _ _ [.int .i64 0] ⟨rfl, trivial⟩ (retH (fun r => spec_l5Arity.post sb s F0 r _ _) (show some _ = some r from H) ⟨rfl, hH⟩)
  ·replace H := iteF hb44 H
   refine HT_false (congrArg Value.bool hb44) ?_
   refine joinH H fun G46 hG46 H => ?_
   refine HT_joinK (fun l' s' => ∃ (x49 : Bool), G46 x49 = some r ∧ l' = [.int .i64 p0, undef, .int .i64 0, .int .i64 p0, .bool x40, j5, j6, .bool x49, getL l' 8, getL l' 9, undef, undef, undef, undef] ∧ Hp sb s F0 s' []) ?_ ?_
   ·intro K46 hK46
    refine HT_seq_k ?_
    intro K50 hK50
    refine HT_region ?_
    refine HL_cons rfl ?_
    refine o_bin rfl rfl rfl ?_
    try dsimp only [putL, setL, evL, getL]
    refine HL_cons rfl ?_
    refine o_assign ?_
    try dsimp only [putL, setL, evL, getL]
    refine HL_nil ?_
    refine hK50 _ _ ?_
    rcases Bool.eq_false_or_eq_true (p0 == 6) with hb51 | hb51
    ·replace H := iteT hb51 H
     refine HT_true (congrArg Value.bool hb51) ?_
     refine HT_skip ?_
     exact hK46 _ _ ⟨p0 == 6, H, rfl, hH⟩
    ·replace H := iteF hb51 H
     refine HT_false (congrArg Value.bool hb51) ?_
     refine HT_region ?_
     refine HL_cons rfl ?_
     refine o_bin rfl rfl rfl ?_
     try dsimp only [putL, setL, evL, getL]
     refine HL_cons rfl ?_
     refine o_assign ?_
     try dsimp only [putL, setL, evL, getL]
     refine HL_nil ?_
     exact hK46 _ _ ⟨p0 == 7, H, rfl, hH⟩
   ·rintro l' s52 ⟨x49, H, hl, hH⟩
    generalize getL l' 8 = j8, getL l' 9 = j9 at hl
    subst hl
    replace H := hG46 _ H
    try dsimp only at H
    rcases Bool.eq_false_or_eq_true x49 with hb53 | hb53
    ·replace H := iteT hb53 H
     refine HT_true (congrArg Value.bool hb53) ?_
     refine HT_seq_k ?_
     intro K54 hK54
     refine HT_region ?_
     refine HL_cons rfl ?_
     refine o_assign ?_
     try dsimp only [putL, setL, evL, getL]
     refine HL_nil ?_
     refine hK54 _ _ ?_
     refine HT_ret ?_
     exact hQr _ _ [.int .i64 1] ⟨rfl, trivial⟩ (retH (fun r => spec_l5Arity.post sb s F0 r _ _) (show some _ = some r from H) ⟨rfl, hH⟩)
    ·replace H := iteF hb53 H
     refine HT_false (congrArg Value.bool hb53) ?_
     refine joinH H fun G55 hG55 H => ?_
     refine HT_joinK (fun l' s' => ∃ (x60 : Bool), G55 x60 = some r ∧ l' = [.int .i64 p0, undef, .int .i64 0, .int .i64 p0, .bool x40, j5, j6, .bool x49, j8, j9, .bool x60, getL l' 11, getL l' 12, getL l' 13] ∧ Hp sb s F0 s' []) ?_ ?_
     ·intro K55 hK55
      refine HT_seq_k ?_
      intro K61 hK61
      refine HT_region ?_
      refine HL_cons rfl ?_
      refine o_bin rfl rfl rfl ?_
      try dsimp only [putL, setL, evL, getL]
      refine HL_cons rfl ?_
      refine o_assign ?_
      try dsimp only [putL, setL, evL, getL]
      refine HL_nil ?_
      refine hK61 _ _ ?_
      rcases Bool.eq_false_or_eq_true (p0 == 3) with hb62 | hb62
      ·replace H := iteT hb62 H
       refine HT_true (congrArg Value.bool hb62) ?_
       refine HT_skip ?_
       exact hK55 _ _ ⟨p0 == 3, H, rfl, hH⟩
      ·replace H := iteF hb62 H
       refine HT_false (congrArg Value.bool hb62) ?_
       refine HT_seq_k ?_
       intro K63 hK63
       refine HT_region ?_
       refine HL_cons rfl ?_
       refine o_bin rfl rfl rfl ?_
       try dsimp only [putL, setL, evL, getL]
       refine HL_cons rfl ?_
       refine o_assign ?_
       try dsimp only [putL, setL, evL, getL]
       refine HL_nil ?_
       refine hK63 _ _ ?_
       rcases Bool.eq_false_or_eq_true (p0 == 4) with hb64 | hb64
       ·replace H := iteT hb64 H
        refine HT_true (congrArg Value.bool hb64) ?_
        refine HT_skip ?_
        exact hK55 _ _ ⟨p0 == 4, H, rfl, hH⟩
       ·replace H := iteF hb64 H
        refine HT_false (congrArg Value.bool hb64) ?_
        refine HT_region ?_
        refine HL_cons rfl ?_
        refine o_bin rfl rfl rfl ?_
        try dsimp only [putL, setL, evL, getL]
        refine HL_cons rfl ?_
        refine o_assign ?_
        try dsimp only [putL, setL, evL, getL]
        refine HL_nil ?_
        exact hK55 _ _ ⟨p0 == 5, H, rfl, hH⟩
     ·rintro l' s65 ⟨x60, H, hl, hH⟩
      generalize getL l' 11 = j11, getL l' 12 = j12, getL l' 13 = j13 at hl
      subst hl
      replace H := hG55 _ H
      try dsimp only at H
      rcases Bool.eq_false_or_eq_true x60 with hb66 | hb66
      ·replace H := iteT hb66 H
       refine HT_true (congrArg Value.bool hb66) ?_
       refine HT_seq_k ?_
       intro K67 hK67
       refine HT_region ?_
       refine HL_cons rfl ?_
       refine o_assign ?_
       try dsimp only [putL, setL, evL, getL]
       refine HL_nil ?_
       refine hK67 _ _ ?_
       refine HT_ret ?_
       exact hQr _ _ [.int .i64 2] ⟨rfl, trivial⟩ (retH (fun r => spec_l5Arity.post sb s F0 r _ _) (show some _ = some r from H) ⟨rfl, hH⟩)
      ·replace H := iteF hb66 H
       refine HT_false (congrArg Value.bool hb66) ?_
       refine HT_skip ?_
       refine hK35 _ _ ?_
       refine HT_seq_k ?_
       intro K68 hK68
       refine HT_region ?_
       refine HL_cons rfl ?_
       refine o_assign ?_
       try dsimp only [putL, setL, evL, getL]
       refine HL_nil ?_
       refine hK68 _ _ ?_
       refine HT_ret ?_
       exact hQr _ _ [.int .i64 (-1)] ⟨rfl, trivial⟩ (retH (fun r => spec_l5Arity.post sb s F0 r _ _) (show some _ = some r from H) ⟨rfl, hH⟩)
def spec_l1In.f (p0 : Int) (p1 : Int) (p2 : Int) : Option Bool := if (decide (p0 ≥ p1)) = true then (some (decide (p0 ≤ p2))) else (some false)
def spec_l1In.post (sb s : St) (F0 : Fp) (r : Bool) : Value → St → Prop := fun v s' => v = .bool r ∧ Hp sb s F0 s' []
set_option maxRecDepth 100000 in
set_option maxHeartbeats 4000000 in
theorem spec_l1In.ok (sb s : St) (F0 : Fp) (p0 : Int) (p1 : Int) (p2 : Int) (hH : Hp sb s F0 s []) (r : Bool) (H : spec_l1In.f p0 p1 p2 = some r) : GCall Try.prog 108 #[.int .i64 p0, .int .i64 p1, .int .i64 p2] s (spec_l1In.post sb s F0 r) := by
 refine GCall_ofk [.tmp 6] [.int .i64 p0, .int .i64 p1, .int .i64 p2, undef, undef, undef, undef, undef, undef, undef, undef, undef, undef, undef, undef] Try.func108 rfl rfl rfl ?_
 intro w Q hQr hQn hQp
 replace H := topE H
 unfold spec_l1In.f at H
 refine HT_seq_k ?_
 intro K1 hK1
 refine HT_region ?_
 refine HL_cons rfl ?_
 refine o_assign ?_
 try dsimp only [putL, setL, evL, getL]
 refine HL_nil ?_
 refine hK1 _ _ ?_
 refine HT_seq_k ?_
 intro K2 hK2
 refine HT_region ?_
 refine HL_cons rfl ?_
 refine o_move ?_
 try dsimp only [putL, setL, evL, getL]
 refine HL_cons rfl ?_
 refine o_move ?_
 try dsimp only [putL, setL, evL, getL]
 refine HL_cons rfl ?_
 refine o_bin rfl rfl rfl ?_
 try dsimp only [putL, setL, evL, getL]
 refine HL_cons rfl ?_
 refine o_move ?_
 try dsimp only [putL, setL, evL, getL]
 rcases Bool.eq_false_or_eq_true (decide (p0 ≥ p1)) with hb3 | hb3
 ·replace H := iteT hb3 H
  refine HL_want ?_ ?_
  ·exact wantT (j := 3) (b := true) (t := 10) (c := decide (p0 ≥ p1)) rfl rfl rfl rfl hb3
  refine o_move ?_
  try dsimp only [putL, setL, evL, getL]
  refine HL_want ?_ ?_
  ·exact wantT (j := 3) (b := true) (t := 10) (c := decide (p0 ≥ p1)) rfl rfl rfl rfl hb3
  refine o_move ?_
  try dsimp only [putL, setL, evL, getL]
  refine HL_want ?_ ?_
  ·exact wantT (j := 3) (b := true) (t := 10) (c := decide (p0 ≥ p1)) rfl rfl rfl rfl hb3
  refine o_bin rfl rfl rfl ?_
  try dsimp only [putL, setL, evL, getL]
  refine HL_cons rfl ?_
  refine o_pickT rfl hb3 ?_
  try dsimp only [putL, setL, evL, getL]
  refine HL_cons rfl ?_
  refine o_assign ?_
  try dsimp only [putL, setL, evL, getL]
  refine HL_nil ?_
  refine hK2 _ _ ?_
  refine HT_ret ?_
  exact hQr _ _ [.bool (decide (p0 ≤ p2))] ⟨rfl, trivial⟩ (retH (fun r => spec_l1In.post sb s F0 r _ _) (show some _ = some r from H) ⟨rfl, hH⟩)
 ·replace H := iteF hb3 H
  refine HL_skip ?_ ?_
  ·exact wantF (j := 3) (b := true) (t := 10) (c := decide (p0 ≥ p1)) rfl rfl rfl rfl hb3
  try dsimp only [putL, setL, evL, getL]
  refine HL_skip ?_ ?_
  ·exact wantF (j := 3) (b := true) (t := 10) (c := decide (p0 ≥ p1)) rfl rfl rfl rfl hb3
  try dsimp only [putL, setL, evL, getL]
  refine HL_skip ?_ ?_
  ·exact wantF (j := 3) (b := true) (t := 10) (c := decide (p0 ≥ p1)) rfl rfl rfl rfl hb3
  try dsimp only [putL, setL, evL, getL]
  refine HL_cons rfl ?_
  refine o_pickF rfl hb3 ?_
  try dsimp only [putL, setL, evL, getL]
  refine HL_cons rfl ?_
  refine o_assign ?_
  try dsimp only [putL, setL, evL, getL]
  refine HL_nil ?_
  refine hK2 _ _ ?_
  refine HT_ret ?_
  exact hQr _ _ [.bool false] ⟨rfl, trivial⟩ (retH (fun r => spec_l1In.post sb s F0 r _ _) (show some _ = some r from H) ⟨rfl, hH⟩)
def spec_l1All.l1 (p0 : List (Int)) (p1 : Int) (p2 : Int) : Nat → Int → Option (Lo Unit Bool)
 | 0, _ => none
 | kf + 1, x48 => if (decide (x48 < (p0.length : Int))) = true then ((rd? p0 x48).bind fun u66 => (spec_l1In.f u66 p1 p2).bind fun u68 => if (!u68) = true then ((some false).bind fun z => some (Lo.ret z)) else (spec_l1All.l1 p0 p1 p2 kf (IntKind.i64.wrap (x48 + 1)))) else (some (Lo.go ()))
def spec_l1All.f (p0 : List (Int)) (p1 : Int) (p2 : Int) : Option Bool := (spec_l1All.l1 p0 p1 p2 ((((p0.length : Int)) - (0)).toNat + 2) 0).bind fun (o : Lo Unit Bool) => match o with | .go () => (some true) | .ret z => some z
def spec_l1All.post (sb s : St) (F0 : Fp) (r : Bool) : Value → St → Prop := fun v s' => v = .bool r ∧ Hp sb s F0 s' []
set_option maxRecDepth 100000 in
set_option maxHeartbeats 4000000 in
theorem spec_l1All.ok (sb s : St) (F0 : Fp) (A0p : Option Addr) (c0p : Nat) (p0 : List (Int)) (p1 : Int) (p2 : Int) (HRp0 : Rd KI sb A0p c0p p0) (hH : Hp sb s F0 s []) (r : Bool) (H : spec_l1All.f p0 p1 p2 = some r) : GCall Try.prog 120 #[.slice A0p p0.length c0p, .int .i64 p1, .int .i64 p2] s (spec_l1All.post sb s F0 r) := by
 refine GCall_ofk [.tmp 6] [.slice A0p p0.length c0p, .int .i64 p1, .int .i64 p2, undef, undef, undef, undef, undef, undef, undef, undef, undef, undef, undef, undef, undef, undef, undef, undef, undef, undef] Try.func120 rfl rfl rfl ?_
 intro w Q hQr hQn hQp
 replace H := topE H
 unfold spec_l1All.f at H
 refine HT_seq_k ?_
 intro K1 hK1
 refine HT_region ?_
 refine HL_cons rfl ?_
 refine o_assign ?_
 try dsimp only [putL, setL, evL, getL]
 refine HL_nil ?_
 refine hK1 _ _ ?_
 refine HT_seq_k ?_
 intro K2 hK2
 refine HT_seq_k ?_
 intro K3 hK3
 refine HT_region ?_
 refine HL_cons rfl ?_
 refine o_move ?_
 try dsimp only [putL, setL, evL, getL]
 refine HL_cons rfl ?_
 refine o_len rfl Try.underlying24 ?_
 try dsimp only [putL, setL, evL, getL]
 refine HL_cons rfl ?_
 refine o_move ?_
 try dsimp only [putL, setL, evL, getL]
 refine HL_nil ?_
 refine hK3 _ _ ?_
 refine joinH H fun G4 hG4 H => ?_
 refine HT_toK (fun l' s' => G4 (.go ()) = some r ∧ l' = [.slice A0p p0.length c0p, .int .i64 p1, .int .i64 p2, undef, undef, undef, getL l' 6, undef, getL l' 8, .slice A0p p0.length c0p, .int .i64 (p0.length : Int), getL l' 11, getL l' 12, getL l' 13, getL l' 14, getL l' 15, getL l' 16, getL l' 17, getL l' 18, getL l' 19, getL l' 20] ∧ Hp sb s F0 s' []) ?_ ?_
 ·intro K4 hK4
  refine HT_block ?_
  refine HT_loopK (fun kf l' s' => ∃ (x48 : Int), (spec_l1All.l1 p0 p1 p2 kf x48).bind G4 = some r ∧ l' = [.slice A0p p0.length c0p, .int .i64 p1, .int .i64 p2, undef, undef, undef, getL l' 6, undef, getL l' 8, .slice A0p p0.length c0p, .int .i64 (p0.length : Int), .int .i64 x48, getL l' 12, getL l' 13, getL l' 14, getL l' 15, getL l' 16, getL l' 17, getL l' 18, getL l' 19, getL l' 20] ∧ Hp sb s F0 s' []) ((((p0.length : Int)) - (0)).toNat + 2) ⟨0, H, rfl, hH⟩ ?_
  rintro kf l' s60 ⟨x48, H, hl, hH⟩ K60 hK60
  generalize getL l' 6 = j6, getL l' 8 = j8, getL l' 12 = j12, getL l' 13 = j13, getL l' 14 = j14, getL l' 15 = j15, getL l' 16 = j16, getL l' 17 = j17, getL l' 18 = j18, getL l' 19 = j19, getL l' 20 = j20 at hl
  subst hl
  cases kf with
  | zero => simp [spec_l1All.l1] at H
  | succ kf =>
   rw [spec_l1All.l1] at H
   refine HT_seq_k ?_
   intro K61 hK61
   refine HT_region ?_
   refine HL_cons rfl ?_
   refine o_bin rfl rfl rfl ?_
   try dsimp only [putL, setL, evL, getL]
   refine HL_nil ?_
   refine hK61 _ _ ?_
   refine HT_seq_k ?_
   intro K62 hK62
   rcases Bool.eq_false_or_eq_true (decide (x48 < (p0.length : Int))) with hb63 | hb63
   ·replace H := iteT hb63 H
    refine HT_true (congrArg Value.bool hb63) ?_
    refine HT_skip ?_
    refine hK62 _ _ ?_
    refine HT_seq_k ?_
    intro K64 hK64
    refine HT_block ?_
    refine HT_seq_k ?_
    intro K65 hK65
    refine HT_region ?_
    replace H := headE H
    obtain ⟨u66, hu66, H⟩ := H
    obtain ⟨b66, o66, cs66, hr66, hh66, hel66⟩ := Rd.elb HRp0 hu66
    obtain rfl := hr66
    refine HL_cons rfl ?_
    refine hel66 s60 rfl rfl Try.underlying24 tI3 ?_
    try dsimp only [putL, setL, evL, getL]
    refine HL_cons rfl ?_
    refine o_load' rfl Try.underlying3 rfl ((hh66 hH.bs.mono) 0 _ rfl) ?_
    try dsimp only [putL, setL, evL, getL]
    refine HL_cons rfl ?_
    refine o_assign ?_
    try dsimp only [putL, setL, evL, getL]
    refine HL_nil ?_
    refine hK65 _ _ ?_
    refine HT_seq_k ?_
    intro K67 hK67
    refine HT_region ?_
    refine HL_cons rfl ?_
    refine o_move ?_
    try dsimp only [putL, setL, evL, getL]
    refine HL_cons rfl ?_
    refine o_move ?_
    try dsimp only [putL, setL, evL, getL]
    refine HL_cons rfl ?_
    refine o_move ?_
    try dsimp only [putL, setL, evL, getL]
    replace H := headE H
    obtain ⟨u68, hu68, H⟩ := H
    refine HL_cons rfl ?_
    refine o_call (args := #[.int .i64 u66, .int .i64 p1, .int .i64 p2]) Try.func108 rfl rfl rfl (spec_l1In.ok sb s60 no u66 p1 p2 (Hp.own hH.bs) _ hu68) ?_
    rintro _ s68 ⟨rfl, hD⟩
    replace hH := hH.back0 hD (Up.refl _ _ _)
    clear hD
    dsimp only [addC, setC, rmC, selC, getC] at hH
    try dsimp only [putL, setL, evL, getL]
    refine HL_cons rfl ?_
    refine o_not rfl ?_
    try dsimp only [putL, setL, evL, getL]
    refine HL_nil ?_
    refine hK67 _ _ ?_
    rcases Bool.eq_false_or_eq_true (!u68) with hb69 | hb69
    ·replace H := iteT hb69 H
     refine HT_true (congrArg Value.bool hb69) ?_
     refine HT_seq_k ?_
     intro K70 hK70
     refine HT_region ?_
     refine HL_cons rfl ?_
     refine o_assign ?_
     try dsimp only [putL, setL, evL, getL]
     refine HL_nil ?_
     refine hK70 _ _ ?_
     refine HT_ret ?_
     replace H := escH (fun z hz => hG4 _ hz) H
     exact hQr _ _ [.bool false] ⟨rfl, trivial⟩ (retH (fun r => spec_l1All.post sb s F0 r _ _) (show some _ = some r from H) ⟨rfl, hH⟩)
    ·replace H := iteF hb69 H
     refine HT_false (congrArg Value.bool hb69) ?_
     refine HT_skip ?_
     refine hK64 _ _ ?_
     refine HT_region ?_
     refine HL_cons rfl ?_
     refine o_bin rfl rfl rfl ?_
     try dsimp only [putL, setL, evL, getL]
     refine HL_cons rfl ?_
     refine o_move ?_
     try dsimp only [putL, setL, evL, getL]
     refine HL_nil ?_
     exact hK60 _ _ ⟨kf, Nat.lt_succ_self kf, IntKind.i64.wrap (x48 + 1), H, rfl, hH⟩
   ·replace H := iteF hb63 H
    refine HT_false (congrArg Value.bool hb63) ?_
    refine HT_exit ?_
    exact hK4 _ _ ⟨H, rfl, hH⟩
 ·rintro l' s71 ⟨H, hl, hH⟩
  generalize getL l' 6 = j6, getL l' 8 = j8, getL l' 11 = j11, getL l' 12 = j12, getL l' 13 = j13, getL l' 14 = j14, getL l' 15 = j15, getL l' 16 = j16, getL l' 17 = j17, getL l' 18 = j18, getL l' 19 = j19, getL l' 20 = j20 at hl
  subst hl
  replace H := hG4 _ H
  try dsimp only at H
  refine hK2 _ _ ?_
  refine HT_seq_k ?_
  intro K72 hK72
  refine HT_region ?_
  refine HL_cons rfl ?_
  refine o_assign ?_
  try dsimp only [putL, setL, evL, getL]
  refine HL_nil ?_
  refine hK72 _ _ ?_
  refine HT_ret ?_
  exact hQr _ _ [.bool true] ⟨rfl, trivial⟩ (retH (fun r => spec_l1All.post sb s F0 r _ _) (show some _ = some r from H) ⟨rfl, hH⟩)
def spec_GoodSet.l1 (p0 : List (Int)) : Nat → Int → Option (Lo Unit Bool)
 | 0, _ => none
 | kf + 1, x192 => if (decide (x192 < (p0.length : Int))) = true then (((rd? p0 x192).bind fun u264 => (rd? p0 (IntKind.i64.wrap (x192 + 1))).bind fun u265 => if (decide (u264 > u265)) = true then (some true) else (if (decide (x192 > 0)) = true then ((rd? p0 x192).bind fun u268 => (rd? p0 (IntKind.i64.wrap (x192 - 1))).bind fun u269 => some (decide (u268 < (IntKind.i64.wrap (u269 + 2))))) else (some false))).bind fun (o : Bool) => match o with | x263 => (if x263 = true then ((some false).bind fun z => some (Lo.ret z)) else (spec_GoodSet.l1 p0 kf (IntKind.i64.wrap (x192 + 2))))) else (some (Lo.go ()))
def spec_GoodSet.f (p0 : List (Int)) : Option Bool := ((rem? (p0.length : Int) 2).bind fun u23 => if (u23 == 1) = true then (some true) else (if (decide ((p0.length : Int) > 24)) = true then (some true) else ((spec_l1All.f p0 0 1114111).bind fun u26 => some (!u26)))).bind fun (o : Bool) => match o with | x22 => (if x22 = true then (some false) else ((spec_GoodSet.l1 p0 ((((p0.length : Int)) - (0)).toNat + 2) 0).bind fun (o : Lo Unit Bool) => match o with | .go () => (some true) | .ret z => some z))
def spec_GoodSet.post (sb s : St) (F0 : Fp) (r : Bool) : Value → St → Prop := fun v s' => v = .bool r ∧ Hp sb s F0 s' []
set_option maxRecDepth 100000 in
set_option maxHeartbeats 4000000 in
theorem spec_GoodSet.ok (sb s : St) (F0 : Fp) (A0p : Option Addr) (c0p : Nat) (p0 : List (Int)) (HRp0 : Rd KI sb A0p c0p p0) (hH : Hp sb s F0 s []) (r : Bool) (H : spec_GoodSet.f p0 = some r) : GCall Try.prog 240 #[.slice A0p p0.length c0p] s (spec_GoodSet.post sb s F0 r) := by
 refine GCall_ofk [.tmp 2] [.slice A0p p0.length c0p, undef, undef, undef, undef, undef, undef, undef, undef, undef, undef, undef, undef, undef, undef, undef, undef, undef, undef, undef, undef, undef, undef, undef, undef, undef, undef, undef, undef, undef, undef, undef, undef, undef, undef, undef, undef, undef, undef, undef, undef, undef, undef, undef, undef, undef, undef, undef, undef, undef, undef] Try.func240 rfl rfl rfl ?_
 intro w Q hQr hQn hQp
 replace H := topE H
 unfold spec_GoodSet.f at H
 refine HT_seq_k ?_
 intro K1 hK1
 refine HT_region ?_
 refine HL_cons rfl ?_
 refine o_assign ?_
 try dsimp only [putL, setL, evL, getL]
 refine HL_nil ?_
 refine hK1 _ _ ?_
 refine HT_seq_k ?_
 intro K16 hK16
 refine joinH H fun G17 hG17 H => ?_
 refine HT_joinK (fun l' s' => ∃ (x22 : Bool), G17 x22 = some r ∧ l' = [.slice A0p p0.length c0p, undef, .bool false, undef, getL l' 4, getL l' 5, getL l' 6, getL l' 7, getL l' 8, getL l' 9, getL l' 10, getL l' 11, getL l' 12, getL l' 13, getL l' 14, getL l' 15, getL l' 16, .bool x22, undef, undef, undef, undef, undef, undef, undef, undef, undef, undef, undef, undef, undef, undef, undef, undef, undef, undef, undef, undef, undef, undef, undef, undef, undef, undef, undef, undef, undef, undef, undef, undef, undef] ∧ Hp sb s F0 s' []) ?_ ?_
 ·intro K17 hK17
  refine HT_region ?_
  refine HL_cons rfl ?_
  refine o_move ?_
  try dsimp only [putL, setL, evL, getL]
  refine HL_cons rfl ?_
  refine o_len rfl Try.underlying24 ?_
  try dsimp only [putL, setL, evL, getL]
  replace H := headE H
  obtain ⟨u23, hu23, H⟩ := H
  refine HL_cons rfl ?_
  refine o_rem' rfl rfl hu23 ?_
  try dsimp only [putL, setL, evL, getL]
  refine HL_cons rfl ?_
  refine o_bin rfl rfl rfl ?_
  try dsimp only [putL, setL, evL, getL]
  refine HL_cons rfl ?_
  refine o_move ?_
  try dsimp only [putL, setL, evL, getL]
  rcases Bool.eq_false_or_eq_true (u23 == 1) with hb24 | hb24
  ·replace H := iteT hb24 H
   refine HL_skip ?_ ?_
   ·exact wantF (j := 4) (b := false) (t := 8) (c := u23 == 1) rfl rfl rfl rfl hb24
   try dsimp only [putL, setL, evL, getL]
   refine HL_skip ?_ ?_
   ·exact wantF (j := 4) (b := false) (t := 8) (c := u23 == 1) rfl rfl rfl rfl hb24
   try dsimp only [putL, setL, evL, getL]
   refine HL_skip ?_ ?_
   ·exact wantF (j := 4) (b := false) (t := 8) (c := u23 == 1) rfl rfl rfl rfl hb24
   try dsimp only [putL, setL, evL, getL]
   refine HL_cons rfl ?_
   refine o_pickT rfl hb24 ?_
   try dsimp only [putL, setL, evL, getL]
   refine HL_cons rfl ?_
   refine o_move ?_
   try dsimp only [putL, setL, evL, getL]
   refine HL_skip ?_ ?_
   ·exact wantF (j := 9) (b := false) (t := 13) (c := true) rfl rfl rfl rfl rfl
   try dsimp only [putL, setL, evL, getL]
   refine HL_skip ?_ ?_
   ·exact wantF (j := 9) (b := false) (t := 13) (c := true) rfl rfl rfl rfl rfl
   try dsimp only [putL, setL, evL, getL]
   refine HL_skip ?_ ?_
   ·exact wantF (j := 9) (b := false) (t := 13) (c := true) rfl rfl rfl rfl rfl
   try dsimp only [putL, setL, evL, getL]
   refine HL_cons rfl ?_
   refine o_pickT rfl rfl ?_
   try dsimp only [putL, setL, evL, getL]
   refine HL_nil ?_
   exact hK17 _ _ ⟨true, H, rfl, hH⟩
  ·replace H := iteF hb24 H
   refine HL_want ?_ ?_
   ·exact wantT (j := 4) (b := false) (t := 8) (c := u23 == 1) rfl rfl rfl rfl hb24
   refine o_move ?_
   try dsimp only [putL, setL, evL, getL]
   refine HL_want ?_ ?_
   ·exact wantT (j := 4) (b := false) (t := 8) (c := u23 == 1) rfl rfl rfl rfl hb24
   refine o_len rfl Try.underlying24 ?_
   try dsimp only [putL, setL, evL, getL]
   refine HL_want ?_ ?_
   ·exact wantT (j := 4) (b := false) (t := 8) (c := u23 == 1) rfl rfl rfl rfl hb24
   refine o_bin rfl rfl rfl ?_
   try dsimp only [putL, setL, evL, getL]
   refine HL_cons rfl ?_
   refine o_pickF rfl hb24 ?_
   try dsimp only [putL, setL, evL, getL]
   refine HL_cons rfl ?_
   refine o_move ?_
   try dsimp only [putL, setL, evL, getL]
   rcases Bool.eq_false_or_eq_true (decide ((p0.length : Int) > 24)) with hb25 | hb25
   ·replace H := iteT hb25 H
    refine HL_skip ?_ ?_
    ·exact wantF (j := 9) (b := false) (t := 13) (c := decide ((p0.length : Int) > 24)) rfl rfl rfl rfl hb25
    try dsimp only [putL, setL, evL, getL]
    refine HL_skip ?_ ?_
    ·exact wantF (j := 9) (b := false) (t := 13) (c := decide ((p0.length : Int) > 24)) rfl rfl rfl rfl hb25
    try dsimp only [putL, setL, evL, getL]
    refine HL_skip ?_ ?_
    ·exact wantF (j := 9) (b := false) (t := 13) (c := decide ((p0.length : Int) > 24)) rfl rfl rfl rfl hb25
    try dsimp only [putL, setL, evL, getL]
    refine HL_cons rfl ?_
    refine o_pickT rfl hb25 ?_
    try dsimp only [putL, setL, evL, getL]
    refine HL_nil ?_
    exact hK17 _ _ ⟨true, H, rfl, hH⟩
   ·replace H := iteF hb25 H
    refine HL_want ?_ ?_
    ·exact wantT (j := 9) (b := false) (t := 13) (c := decide ((p0.length : Int) > 24)) rfl rfl rfl rfl hb25
    refine o_move ?_
    try dsimp only [putL, setL, evL, getL]
    replace H := headE H
    obtain ⟨u26, hu26, H⟩ := H
    refine HL_want ?_ ?_
    ·exact wantT (j := 9) (b := false) (t := 13) (c := decide ((p0.length : Int) > 24)) rfl rfl rfl rfl hb25
    refine o_call (args := #[.slice A0p p0.length c0p, .int .i64 0, .int .i64 1114111]) Try.func120 rfl rfl rfl (spec_l1All.ok sb s no A0p c0p p0 0 1114111 HRp0 (Hp.own hH.bs) _ hu26) ?_
    rintro _ s26 ⟨rfl, hD⟩
    replace hH := hH.back0 hD (Up.refl _ _ _)
    clear hD
    dsimp only [addC, setC, rmC, selC, getC] at hH
    try dsimp only [putL, setL, evL, getL]
    refine HL_want ?_ ?_
    ·exact wantT (j := 9) (b := false) (t := 13) (c := decide ((p0.length : Int) > 24)) rfl rfl rfl rfl hb25
    refine o_not rfl ?_
    try dsimp only [putL, setL, evL, getL]
    refine HL_cons rfl ?_
    refine o_pickF rfl hb25 ?_
    try dsimp only [putL, setL, evL, getL]
    refine HL_nil ?_
    exact hK17 _ _ ⟨!u26, H, rfl, hH⟩
 ·rintro l' s27 ⟨x22, H, hl, hH⟩
  generalize getL l' 4 = j4, getL l' 5 = j5, getL l' 6 = j6, getL l' 7 = j7, getL l' 8 = j8, getL l' 9 = j9, getL l' 10 = j10, getL l' 11 = j11, getL l' 12 = j12, getL l' 13 = j13, getL l' 14 = j14, getL l' 15 = j15, getL l' 16 = j16 at hl
  subst hl
  replace H := hG17 _ H
  try dsimp only at H
  rcases Bool.eq_false_or_eq_true x22 with hb28 | hb28
  ·replace H := iteT hb28 H
   refine HT_true (congrArg Value.bool hb28) ?_
   refine HT_seq_k ?_
   intro K29 hK29
   refine HT_region ?_
   refine HL_cons rfl ?_
   refine o_assign ?_
   try dsimp only [putL, setL, evL, getL]
   refine HL_nil ?_
   refine hK29 _ _ ?_
   refine HT_ret ?_
   exact hQr _ _ [.bool false] ⟨rfl, trivial⟩ (retH (fun r => spec_GoodSet.post sb s F0 r _ _) (show some _ = some r from H) ⟨rfl, hH⟩)
  ·replace H := iteF hb28 H
   refine HT_false (congrArg Value.bool hb28) ?_
   refine HT_skip ?_
   refine hK16 _ _ ?_
   refine HT_seq_k ?_
   intro K30 hK30
   refine HT_seq_k ?_
   intro K31 hK31
   refine HT_region ?_
   refine HL_cons rfl ?_
   refine o_assign ?_
   try dsimp only [putL, setL, evL, getL]
   refine HL_nil ?_
   refine hK31 _ _ ?_
   refine joinH H fun G32 hG32 H => ?_
   refine HT_toK (fun l' s' => G32 (.go ()) = some r ∧ l' = [.slice A0p p0.length c0p, undef, getL l' 2, getL l' 3, j4, j5, j6, j7, j8, j9, j10, j11, j12, j13, j14, j15, j16, .bool x22, getL l' 18, getL l' 19, getL l' 20, getL l' 21, getL l' 22, getL l' 23, getL l' 24, getL l' 25, getL l' 26, getL l' 27, getL l' 28, getL l' 29, getL l' 30, getL l' 31, getL l' 32, getL l' 33, getL l' 34, getL l' 35, getL l' 36, getL l' 37, getL l' 38, getL l' 39, getL l' 40, getL l' 41, getL l' 42, getL l' 43, getL l' 44, getL l' 45, getL l' 46, getL l' 47, getL l' 48, getL l' 49, getL l' 50] ∧ Hp sb s F0 s' []) ?_ ?_
   ·intro K32 hK32
    refine HT_block ?_
    refine HT_loopK (fun kf l' s' => ∃ (x192 : Int), (spec_GoodSet.l1 p0 kf x192).bind G32 = some r ∧ l' = [.slice A0p p0.length c0p, undef, getL l' 2, .int .i64 x192, j4, j5, j6, j7, j8, j9, j10, j11, j12, j13, j14, j15, j16, .bool x22, getL l' 18, getL l' 19, getL l' 20, getL l' 21, getL l' 22, getL l' 23, getL l' 24, getL l' 25, getL l' 26, getL l' 27, getL l' 28, getL l' 29, getL l' 30, getL l' 31, getL l' 32, getL l' 33, getL l' 34, getL l' 35, getL l' 36, getL l' 37, getL l' 38, getL l' 39, getL l' 40, getL l' 41, getL l' 42, getL l' 43, getL l' 44, getL l' 45, getL l' 46, getL l' 47, getL l' 48, getL l' 49, getL l' 50] ∧ Hp sb s F0 s' []) ((((p0.length : Int)) - (0)).toNat + 2) ⟨0, H, rfl, hH⟩ ?_
    rintro kf l' s233 ⟨x192, H, hl, hH⟩ K233 hK233
    generalize getL l' 2 = j2, getL l' 18 = j18, getL l' 19 = j19, getL l' 20 = j20, getL l' 21 = j21, getL l' 22 = j22, getL l' 23 = j23, getL l' 24 = j24, getL l' 25 = j25, getL l' 26 = j26, getL l' 27 = j27, getL l' 28 = j28, getL l' 29 = j29, getL l' 30 = j30, getL l' 31 = j31, getL l' 32 = j32, getL l' 33 = j33, getL l' 34 = j34, getL l' 35 = j35, getL l' 36 = j36, getL l' 37 = j37, getL l' 38 = j38, getL l' 39 = j39, getL l' 40 = j40, getL l' 41 = j41, getL l' 42 = j42, getL l' 43 = j43, getL l' 44 = j44, getL l' 45 = j45, getL l' 46 = j46, getL l' 47 = j47, getL l' 48 = j48, getL l' 49 = j49, getL l' 50 = j50 at hl
    subst hl
    cases kf with
    | zero => simp [spec_GoodSet.l1] at H
    | succ kf =>
     rw [spec_GoodSet.l1] at H
     refine HT_seq_k ?_
     intro K234 hK234
     refine HT_seq_k ?_
     intro K235 hK235
     refine HT_region ?_
     refine HL_cons rfl ?_
     refine o_move ?_
     try dsimp only [putL, setL, evL, getL]
     refine HL_cons rfl ?_
     refine o_move ?_
     try dsimp only [putL, setL, evL, getL]
     refine HL_cons rfl ?_
     refine o_len rfl Try.underlying24 ?_
     try dsimp only [putL, setL, evL, getL]
     refine HL_cons rfl ?_
     refine o_bin rfl rfl rfl ?_
     try dsimp only [putL, setL, evL, getL]
     refine HL_nil ?_
     refine hK235 _ _ ?_
     rcases Bool.eq_false_or_eq_true (decide (x192 < (p0.length : Int))) with hb236 | hb236
     ·replace H := iteT hb236 H
      refine HT_true (congrArg Value.bool hb236) ?_
      refine HT_skip ?_
      refine hK234 _ _ ?_
      refine HT_seq_k ?_
      intro K255 hK255
      refine HT_block ?_
      refine joinH H fun G256 hG256 H => ?_
      refine HT_joinK (fun l' s' => ∃ (x263 : Bool), G256 x263 = some r ∧ l' = [.slice A0p p0.length c0p, undef, j2, .int .i64 x192, j4, j5, j6, j7, j8, j9, j10, j11, j12, j13, j14, j15, j16, .bool x22, .int .i64 x192, .slice A0p p0.length c0p, .int .i64 (p0.length : Int), .bool (decide (x192 < (p0.length : Int))), j22, j23, getL l' 24, getL l' 25, getL l' 26, getL l' 27, getL l' 28, getL l' 29, getL l' 30, getL l' 31, getL l' 32, getL l' 33, getL l' 34, getL l' 35, getL l' 36, getL l' 37, getL l' 38, getL l' 39, getL l' 40, getL l' 41, getL l' 42, getL l' 43, getL l' 44, getL l' 45, getL l' 46, getL l' 47, getL l' 48, getL l' 49, .bool x263] ∧ Hp sb s F0 s' []) ?_ ?_
      ·intro K256 hK256
       refine HX_draw hMix ?_
       refine HX_lim (R := fun _ => True) (k := 0) (fun s' => Gro s233 s') 28 ?_
       have hR := Gro.refl s233
       have hH0 := hH
       refine HK_readP 0 (v := .slice A0p p0.length c0p) rfl (by kernel_rfl) (fun c l s h => hQp c l s h) rfl (fun s' K hK => ?_) rfl rfl (fun _ => hR) ?_
       ·refine o_move ?_
        exact hK
       try dsimp only [putL, setL, evL, getL]
       refine HK_readP 1 (v := .int .i64 x192) rfl (by kernel_rfl) (fun c l s h => hQp c l s h) rfl (fun s' K hK => ?_) rfl rfl (fun _ => hR) ?_
       ·refine o_move ?_
        exact hK
       try dsimp only [putL, setL, evL, getL]
       replace H := headE H
       obtain ⟨u264, hu264, H⟩ := H
       obtain ⟨b264, o264, cs264, hr264, hh264, hel264⟩ := Rd.elb HRp0 hu264
       obtain rfl := hr264
       refine HK_readP 2 (v := .pointer (some ⟨b264, o264, none⟩)) rfl (by kernel_rfl) (fun c l s h => hQp c l s h) rfl (fun s' K hK => ?_) rfl rfl (fun _ => hR) ?_
       ·refine hel264 s' rfl rfl Try.underlying24 tI3 ?_
        exact hK
       try dsimp only [putL, setL, evL, getL]
       refine HK_read 3 (v := .int .i64 u264) rfl (by kernel_rfl) (fun c l s h => hQp c l s h) rfl (fun s' hR' K hK => ?_) rfl rfl hR ?_
       ·refine o_load' rfl Try.underlying3 rfl ((hh264 (hH0.bs.mono.trans hR'.mono)) 0 _ rfl) ?_
        exact hK
       try dsimp only [putL, setL, evL, getL]
       refine HK_readP 4 (v := .slice A0p p0.length c0p) rfl (by kernel_rfl) (fun c l s h => hQp c l s h) rfl (fun s' K hK => ?_) rfl rfl (fun _ => hR) ?_
       ·refine o_move ?_
        exact hK
       try dsimp only [putL, setL, evL, getL]
       refine HK_readP 5 (v := .int .i64 x192) rfl (by kernel_rfl) (fun c l s h => hQp c l s h) rfl (fun s' K hK => ?_) rfl rfl (fun _ => hR) ?_
       ·refine o_move ?_
        exact hK
       try dsimp only [putL, setL, evL, getL]
       refine HK_readP 6 (v := .int .i64 (IntKind.i64.wrap (x192 + 1))) rfl (by kernel_rfl) (fun c l s h => hQp c l s h) rfl (fun s' K hK => ?_) rfl rfl (fun _ => hR) ?_
       ·refine o_bin rfl rfl rfl ?_
        exact hK
       try dsimp only [putL, setL, evL, getL]
       replace H := headE H
       obtain ⟨u265, hu265, H⟩ := H
       obtain ⟨b265, o265, cs265, hr265, hh265, hel265⟩ := Rd.elb HRp0 hu265
       obtain rfl := hr265
       refine HK_readP 7 (v := .pointer (some ⟨b265, o265, none⟩)) rfl (by kernel_rfl) (fun c l s h => hQp c l s h) rfl (fun s' K hK => ?_) rfl rfl (fun _ => hR) ?_
       ·refine hel265 s' rfl rfl Try.underlying24 tI3 ?_
        exact hK
       try dsimp only [putL, setL, evL, getL]
       refine HK_read 8 (v := .int .i64 u265) rfl (by kernel_rfl) (fun c l s h => hQp c l s h) rfl (fun s' hR' K hK => ?_) rfl rfl hR ?_
       ·refine o_load' rfl Try.underlying3 rfl ((hh265 (hH0.bs.mono.trans hR'.mono)) 0 _ rfl) ?_
        exact hK
       try dsimp only [putL, setL, evL, getL]
       refine HK_readP 9 (v := .bool (decide (u264 > u265))) rfl (by kernel_rfl) (fun c l s h => hQp c l s h) rfl (fun s' K hK => ?_) rfl rfl (fun _ => hR) ?_
       ·refine o_bin rfl rfl rfl ?_
        exact hK
       try dsimp only [putL, setL, evL, getL]
       refine HK_readP 10 (v := .bool (decide (u264 > u265))) rfl (by kernel_rfl) (fun c l s h => hQp c l s h) rfl (fun s' K hK => ?_) rfl rfl (fun _ => hR) ?_
       ·refine o_move ?_
        exact hK
       try dsimp only [putL, setL, evL, getL]
       rcases Bool.eq_false_or_eq_true (decide (u264 > u265)) with hb266 | hb266
       ·replace H := iteT hb266 H
        refine HK_passP 11 rfl (by kernel_rfl) (fun c l s h => hQp c l s h) ?_ (fun _ => hR) ?_
        ·exact wantF (j := 10) (b := false) (t := 34) (c := decide (u264 > u265)) rfl rfl rfl rfl hb266
        try dsimp only [putL, setL, evL, getL]
        refine HK_passP 12 rfl (by kernel_rfl) (fun c l s h => hQp c l s h) ?_ (fun _ => hR) ?_
        ·exact wantF (j := 10) (b := false) (t := 34) (c := decide (u264 > u265)) rfl rfl rfl rfl hb266
        try dsimp only [putL, setL, evL, getL]
        refine HK_passP 13 rfl (by kernel_rfl) (fun c l s h => hQp c l s h) ?_ (fun _ => hR) ?_
        ·exact wantF (j := 10) (b := false) (t := 34) (c := decide (u264 > u265)) rfl rfl rfl rfl hb266
        try dsimp only [putL, setL, evL, getL]
        refine HK_passP 14 rfl (by kernel_rfl) (fun c l s h => hQp c l s h) ?_ (fun _ => hR) ?_
        ·exact wantU (j := 13) (b := true) (t := 37) rfl rfl rfl rfl
        try dsimp only [putL, setL, evL, getL]
        refine HK_passP 15 rfl (by kernel_rfl) (fun c l s h => hQp c l s h) ?_ (fun _ => hR) ?_
        ·exact wantU (j := 13) (b := true) (t := 37) rfl rfl rfl rfl
        try dsimp only [putL, setL, evL, getL]
        refine HK_passP 16 rfl (by kernel_rfl) (fun c l s h => hQp c l s h) ?_ (fun _ => hR) ?_
        ·exact wantU (j := 13) (b := true) (t := 37) rfl rfl rfl rfl
        try dsimp only [putL, setL, evL, getL]
        refine HK_passP 17 rfl (by kernel_rfl) (fun c l s h => hQp c l s h) ?_ (fun _ => hR) ?_
        ·exact wantU (j := 13) (b := true) (t := 37) rfl rfl rfl rfl
        try dsimp only [putL, setL, evL, getL]
        refine HK_passP 18 rfl (by kernel_rfl) (fun c l s h => hQp c l s h) ?_ (fun _ => hR) ?_
        ·exact wantU (j := 13) (b := true) (t := 37) rfl rfl rfl rfl
        try dsimp only [putL, setL, evL, getL]
        refine HK_passP 19 rfl (by kernel_rfl) (fun c l s h => hQp c l s h) ?_ (fun _ => hR) ?_
        ·exact wantU (j := 13) (b := true) (t := 37) rfl rfl rfl rfl
        try dsimp only [putL, setL, evL, getL]
        refine HK_passP 20 rfl (by kernel_rfl) (fun c l s h => hQp c l s h) ?_ (fun _ => hR) ?_
        ·exact wantU (j := 13) (b := true) (t := 37) rfl rfl rfl rfl
        try dsimp only [putL, setL, evL, getL]
        refine HK_passP 21 rfl (by kernel_rfl) (fun c l s h => hQp c l s h) ?_ (fun _ => hR) ?_
        ·exact wantU (j := 13) (b := true) (t := 37) rfl rfl rfl rfl
        try dsimp only [putL, setL, evL, getL]
        refine HK_passP 22 rfl (by kernel_rfl) (fun c l s h => hQp c l s h) ?_ (fun _ => hR) ?_
        ·exact wantU (j := 13) (b := true) (t := 37) rfl rfl rfl rfl
        try dsimp only [putL, setL, evL, getL]
        refine HK_passP 23 rfl (by kernel_rfl) (fun c l s h => hQp c l s h) ?_ (fun _ => hR) ?_
        ·exact wantU (j := 13) (b := true) (t := 37) rfl rfl rfl rfl
        try dsimp only [putL, setL, evL, getL]
        refine HK_passP 24 rfl (by kernel_rfl) (fun c l s h => hQp c l s h) ?_ (fun _ => hR) ?_
        ·exact wantU (j := 13) (b := true) (t := 37) rfl rfl rfl rfl
        try dsimp only [putL, setL, evL, getL]
        refine HK_passP 25 rfl (by kernel_rfl) (fun c l s h => hQp c l s h) ?_ (fun _ => hR) ?_
        ·exact wantF (j := 10) (b := false) (t := 34) (c := decide (u264 > u265)) rfl rfl rfl rfl hb266
        try dsimp only [putL, setL, evL, getL]
        refine HK_readP 26 (v := .bool true) rfl (by kernel_rfl) (fun c l s h => hQp c l s h) rfl (fun s' K hK => ?_) rfl rfl (fun _ => hR) ?_
        ·refine o_pickT rfl hb266 ?_
         exact hK
        try dsimp only [putL, setL, evL, getL]
        refine HK_done (fun _ => hR) (by kernel_rfl) ?_
        exact hK256 _ _ ⟨true, H, rfl, hH⟩
       ·replace H := iteF hb266 H
        refine HK_readP 11 (v := .int .i64 x192) rfl (by kernel_rfl) (fun c l s h => hQp c l s h) (wantT (j := 10) (b := false) (t := 34) (c := decide (u264 > u265)) rfl rfl rfl rfl hb266) (fun s' K hK => ?_) rfl rfl (fun _ => hR) ?_
        ·refine o_move ?_
         exact hK
        try dsimp only [putL, setL, evL, getL]
        refine HK_readP 12 (v := .bool (decide (x192 > 0))) rfl (by kernel_rfl) (fun c l s h => hQp c l s h) (wantT (j := 10) (b := false) (t := 34) (c := decide (u264 > u265)) rfl rfl rfl rfl hb266) (fun s' K hK => ?_) rfl rfl (fun _ => hR) ?_
        ·refine o_bin rfl rfl rfl ?_
         exact hK
        try dsimp only [putL, setL, evL, getL]
        refine HK_readP 13 (v := .bool (decide (x192 > 0))) rfl (by kernel_rfl) (fun c l s h => hQp c l s h) (wantT (j := 10) (b := false) (t := 34) (c := decide (u264 > u265)) rfl rfl rfl rfl hb266) (fun s' K hK => ?_) rfl rfl (fun _ => hR) ?_
        ·refine o_move ?_
         exact hK
        try dsimp only [putL, setL, evL, getL]
        rcases Bool.eq_false_or_eq_true (decide (x192 > 0)) with hb267 | hb267
        ·replace H := iteT hb267 H
         refine HK_readP 14 (v := .slice A0p p0.length c0p) rfl (by kernel_rfl) (fun c l s h => hQp c l s h) (wantT (j := 13) (b := true) (t := 37) (c := decide (x192 > 0)) rfl rfl rfl rfl hb267) (fun s' K hK => ?_) rfl rfl (fun _ => hR) ?_
         ·refine o_move ?_
          exact hK
         try dsimp only [putL, setL, evL, getL]
         refine HK_readP 15 (v := .int .i64 x192) rfl (by kernel_rfl) (fun c l s h => hQp c l s h) (wantT (j := 13) (b := true) (t := 37) (c := decide (x192 > 0)) rfl rfl rfl rfl hb267) (fun s' K hK => ?_) rfl rfl (fun _ => hR) ?_
         ·refine o_move ?_
          exact hK
         try dsimp only [putL, setL, evL, getL]
         replace H := headE H
         obtain ⟨u268, hu268, H⟩ := H
         obtain ⟨b268, o268, cs268, hr268, hh268, hel268⟩ := Rd.elb HRp0 hu268
         obtain rfl := hr268
         refine HK_readP 16 (v := .pointer (some ⟨b268, o268, none⟩)) rfl (by kernel_rfl) (fun c l s h => hQp c l s h) (wantT (j := 13) (b := true) (t := 37) (c := decide (x192 > 0)) rfl rfl rfl rfl hb267) (fun s' K hK => ?_) rfl rfl (fun _ => hR) ?_
         ·refine hel268 s' rfl rfl Try.underlying24 tI3 ?_
          exact hK
         try dsimp only [putL, setL, evL, getL]
         refine HK_read 17 (v := .int .i64 u268) rfl (by kernel_rfl) (fun c l s h => hQp c l s h) (wantT (j := 13) (b := true) (t := 37) (c := decide (x192 > 0)) rfl rfl rfl rfl hb267) (fun s' hR' K hK => ?_) rfl rfl hR ?_
         ·refine o_load' rfl Try.underlying3 rfl ((hh268 (hH0.bs.mono.trans hR'.mono)) 0 _ rfl) ?_
          exact hK
         try dsimp only [putL, setL, evL, getL]
         refine HK_readP 18 (v := .slice A0p p0.length c0p) rfl (by kernel_rfl) (fun c l s h => hQp c l s h) (wantT (j := 13) (b := true) (t := 37) (c := decide (x192 > 0)) rfl rfl rfl rfl hb267) (fun s' K hK => ?_) rfl rfl (fun _ => hR) ?_
         ·refine o_move ?_
          exact hK
         try dsimp only [putL, setL, evL, getL]
         refine HK_readP 19 (v := .int .i64 x192) rfl (by kernel_rfl) (fun c l s h => hQp c l s h) (wantT (j := 13) (b := true) (t := 37) (c := decide (x192 > 0)) rfl rfl rfl rfl hb267) (fun s' K hK => ?_) rfl rfl (fun _ => hR) ?_
         ·refine o_move ?_
          exact hK
         try dsimp only [putL, setL, evL, getL]
         refine HK_readP 20 (v := .int .i64 (IntKind.i64.wrap (x192 - 1))) rfl (by kernel_rfl) (fun c l s h => hQp c l s h) (wantT (j := 13) (b := true) (t := 37) (c := decide (x192 > 0)) rfl rfl rfl rfl hb267) (fun s' K hK => ?_) rfl rfl (fun _ => hR) ?_
         ·refine o_bin rfl rfl rfl ?_
          exact hK
         try dsimp only [putL, setL, evL, getL]
         replace H := headE H
         obtain ⟨u269, hu269, H⟩ := H
         obtain ⟨b269, o269, cs269, hr269, hh269, hel269⟩ := Rd.elb HRp0 hu269
         obtain rfl := hr269
         refine HK_readP 21 (v := .pointer (some ⟨b269, o269, none⟩)) rfl (by kernel_rfl) (fun c l s h => hQp c l s h) (wantT (j := 13) (b := true) (t := 37) (c := decide (x192 > 0)) rfl rfl rfl rfl hb267) (fun s' K hK => ?_) rfl rfl (fun _ => hR) ?_
         ·refine hel269 s' rfl rfl Try.underlying24 tI3 ?_
          exact hK
         try dsimp only [putL, setL, evL, getL]
         refine HK_read 22 (v := .int .i64 u269) rfl (by kernel_rfl) (fun c l s h => hQp c l s h) (wantT (j := 13) (b := true) (t := 37) (c := decide (x192 > 0)) rfl rfl rfl rfl hb267) (fun s' hR' K hK => ?_) rfl rfl hR ?_
         ·refine o_load' rfl Try.underlying3 rfl ((hh269 (hH0.bs.mono.trans hR'.mono)) 0 _ rfl) ?_
          exact hK
         try dsimp only [putL, setL, evL, getL]
         refine HK_readP 23 (v := .int .i64 (IntKind.i64.wrap (u269 + 2))) rfl (by kernel_rfl) (fun c l s h => hQp c l s h) (wantT (j := 13) (b := true) (t := 37) (c := decide (x192 > 0)) rfl rfl rfl rfl hb267) (fun s' K hK => ?_) rfl rfl (fun _ => hR) ?_
         ·refine o_bin rfl rfl rfl ?_
          exact hK
         try dsimp only [putL, setL, evL, getL]
         refine HK_readP 24 (v := .bool (decide (u268 < (IntKind.i64.wrap (u269 + 2))))) rfl (by kernel_rfl) (fun c l s h => hQp c l s h) (wantT (j := 13) (b := true) (t := 37) (c := decide (x192 > 0)) rfl rfl rfl rfl hb267) (fun s' K hK => ?_) rfl rfl (fun _ => hR) ?_
         ·refine o_bin rfl rfl rfl ?_
          exact hK
         try dsimp only [putL, setL, evL, getL]
         refine HK_readP 25 (v := .bool (decide (u268 < (IntKind.i64.wrap (u269 + 2))))) rfl (by kernel_rfl) (fun c l s h => hQp c l s h) (wantT (j := 10) (b := false) (t := 34) (c := decide (u264 > u265)) rfl rfl rfl rfl hb266) (fun s' K hK => ?_) rfl rfl (fun _ => hR) ?_
         ·refine o_pickT rfl hb267 ?_
          exact hK
         try dsimp only [putL, setL, evL, getL]
         refine HK_readP 26 (v := .bool (decide (u268 < (IntKind.i64.wrap (u269 + 2))))) rfl (by kernel_rfl) (fun c l s h => hQp c l s h) rfl (fun s' K hK => ?_) rfl rfl (fun _ => hR) ?_
         ·refine o_pickF rfl hb266 ?_
          exact hK
         try dsimp only [putL, setL, evL, getL]
         refine HK_done (fun _ => hR) (by kernel_rfl) ?_
         exact hK256 _ _ ⟨decide (u268 < (IntKind.i64.wrap (u269 + 2))), H, rfl, hH⟩
        ·replace H := iteF hb267 H
         refine HK_passP 14 rfl (by kernel_rfl) (fun c l s h => hQp c l s h) ?_ (fun _ => hR) ?_
         ·exact wantF (j := 13) (b := true) (t := 37) (c := decide (x192 > 0)) rfl rfl rfl rfl hb267
         try dsimp only [putL, setL, evL, getL]
         refine HK_passP 15 rfl (by kernel_rfl) (fun c l s h => hQp c l s h) ?_ (fun _ => hR) ?_
         ·exact wantF (j := 13) (b := true) (t := 37) (c := decide (x192 > 0)) rfl rfl rfl rfl hb267
         try dsimp only [putL, setL, evL, getL]
         refine HK_passP 16 rfl (by kernel_rfl) (fun c l s h => hQp c l s h) ?_ (fun _ => hR) ?_
         ·exact wantF (j := 13) (b := true) (t := 37) (c := decide (x192 > 0)) rfl rfl rfl rfl hb267
         try dsimp only [putL, setL, evL, getL]
         refine HK_passP 17 rfl (by kernel_rfl) (fun c l s h => hQp c l s h) ?_ (fun _ => hR) ?_
         ·exact wantF (j := 13) (b := true) (t := 37) (c := decide (x192 > 0)) rfl rfl rfl rfl hb267
         try dsimp only [putL, setL, evL, getL]
         refine HK_passP 18 rfl (by kernel_rfl) (fun c l s h => hQp c l s h) ?_ (fun _ => hR) ?_
         ·exact wantF (j := 13) (b := true) (t := 37) (c := decide (x192 > 0)) rfl rfl rfl rfl hb267
         try dsimp only [putL, setL, evL, getL]
         refine HK_passP 19 rfl (by kernel_rfl) (fun c l s h => hQp c l s h) ?_ (fun _ => hR) ?_
         ·exact wantF (j := 13) (b := true) (t := 37) (c := decide (x192 > 0)) rfl rfl rfl rfl hb267
         try dsimp only [putL, setL, evL, getL]
         refine HK_passP 20 rfl (by kernel_rfl) (fun c l s h => hQp c l s h) ?_ (fun _ => hR) ?_
         ·exact wantF (j := 13) (b := true) (t := 37) (c := decide (x192 > 0)) rfl rfl rfl rfl hb267
         try dsimp only [putL, setL, evL, getL]
         refine HK_passP 21 rfl (by kernel_rfl) (fun c l s h => hQp c l s h) ?_ (fun _ => hR) ?_
         ·exact wantF (j := 13) (b := true) (t := 37) (c := decide (x192 > 0)) rfl rfl rfl rfl hb267
         try dsimp only [putL, setL, evL, getL]
         refine HK_passP 22 rfl (by kernel_rfl) (fun c l s h => hQp c l s h) ?_ (fun _ => hR) ?_
         ·exact wantF (j := 13) (b := true) (t := 37) (c := decide (x192 > 0)) rfl rfl rfl rfl hb267
         try dsimp only [putL, setL, evL, getL]
         refine HK_passP 23 rfl (by kernel_rfl) (fun c l s h => hQp c l s h) ?_ (fun _ => hR) ?_
         ·exact wantF (j := 13) (b := true) (t := 37) (c := decide (x192 > 0)) rfl rfl rfl rfl hb267
         try dsimp only [putL, setL, evL, getL]
         refine HK_passP 24 rfl (by kernel_rfl) (fun c l s h => hQp c l s h) ?_ (fun _ => hR) ?_
         ·exact wantF (j := 13) (b := true) (t := 37) (c := decide (x192 > 0)) rfl rfl rfl rfl hb267
         try dsimp only [putL, setL, evL, getL]
         refine HK_readP 25 (v := .bool false) rfl (by kernel_rfl) (fun c l s h => hQp c l s h) (wantT (j := 10) (b := false) (t := 34) (c := decide (u264 > u265)) rfl rfl rfl rfl hb266) (fun s' K hK => ?_) rfl rfl (fun _ => hR) ?_
         ·refine o_pickF rfl hb267 ?_
          exact hK
         try dsimp only [putL, setL, evL, getL]
         refine HK_readP 26 (v := .bool false) rfl (by kernel_rfl) (fun c l s h => hQp c l s h) rfl (fun s' K hK => ?_) rfl rfl (fun _ => hR) ?_
         ·refine o_pickF rfl hb266 ?_
          exact hK
         try dsimp only [putL, setL, evL, getL]
         refine HK_done (fun _ => hR) (by kernel_rfl) ?_
         exact hK256 _ _ ⟨false, H, rfl, hH⟩
      ·rintro l' s270 ⟨x263, H, hl, hH⟩
       generalize getL l' 24 = j24, getL l' 25 = j25, getL l' 26 = j26, getL l' 27 = j27, getL l' 28 = j28, getL l' 29 = j29, getL l' 30 = j30, getL l' 31 = j31, getL l' 32 = j32, getL l' 33 = j33, getL l' 34 = j34, getL l' 35 = j35, getL l' 36 = j36, getL l' 37 = j37, getL l' 38 = j38, getL l' 39 = j39, getL l' 40 = j40, getL l' 41 = j41, getL l' 42 = j42, getL l' 43 = j43, getL l' 44 = j44, getL l' 45 = j45, getL l' 46 = j46, getL l' 47 = j47, getL l' 48 = j48, getL l' 49 = j49 at hl
       subst hl
       replace H := hG256 _ H
       try dsimp only at H
       rcases Bool.eq_false_or_eq_true x263 with hb271 | hb271
       ·replace H := iteT hb271 H
        refine HT_true (congrArg Value.bool hb271) ?_
        refine HT_seq_k ?_
        intro K272 hK272
        refine HT_region ?_
        refine HL_cons rfl ?_
        refine o_assign ?_
        try dsimp only [putL, setL, evL, getL]
        refine HL_nil ?_
        refine hK272 _ _ ?_
        refine HT_ret ?_
        replace H := escH (fun z hz => hG32 _ hz) H
        exact hQr _ _ [.bool false] ⟨rfl, trivial⟩ (retH (fun r => spec_GoodSet.post sb s F0 r _ _) (show some _ = some r from H) ⟨rfl, hH⟩)
       ·replace H := iteF hb271 H
        refine HT_false (congrArg Value.bool hb271) ?_
        refine HT_skip ?_
        refine hK255 _ _ ?_
        refine HT_region ?_
        refine HL_cons rfl ?_
        refine o_move ?_
        try dsimp only [putL, setL, evL, getL]
        refine HL_cons rfl ?_
        refine o_bin rfl rfl rfl ?_
        try dsimp only [putL, setL, evL, getL]
        refine HL_cons rfl ?_
        refine o_assign ?_
        try dsimp only [putL, setL, evL, getL]
        refine HL_nil ?_
        exact hK233 _ _ ⟨kf, Nat.lt_succ_self kf, IntKind.i64.wrap (x192 + 2), H, rfl, hH⟩
     ·replace H := iteF hb236 H
      refine HT_false (congrArg Value.bool hb236) ?_
      refine HT_exit ?_
      exact hK32 _ _ ⟨H, rfl, hH⟩
   ·rintro l' s273 ⟨H, hl, hH⟩
    generalize getL l' 2 = j2, getL l' 3 = j3, getL l' 18 = j18, getL l' 19 = j19, getL l' 20 = j20, getL l' 21 = j21, getL l' 22 = j22, getL l' 23 = j23, getL l' 24 = j24, getL l' 25 = j25, getL l' 26 = j26, getL l' 27 = j27, getL l' 28 = j28, getL l' 29 = j29, getL l' 30 = j30, getL l' 31 = j31, getL l' 32 = j32, getL l' 33 = j33, getL l' 34 = j34, getL l' 35 = j35, getL l' 36 = j36, getL l' 37 = j37, getL l' 38 = j38, getL l' 39 = j39, getL l' 40 = j40, getL l' 41 = j41, getL l' 42 = j42, getL l' 43 = j43, getL l' 44 = j44, getL l' 45 = j45, getL l' 46 = j46, getL l' 47 = j47, getL l' 48 = j48, getL l' 49 = j49, getL l' 50 = j50 at hl
    subst hl
    replace H := hG32 _ H
    try dsimp only at H
    refine hK30 _ _ ?_
    refine HT_seq_k ?_
    intro K274 hK274
    refine HT_region ?_
    refine HL_cons rfl ?_
    refine o_assign ?_
    try dsimp only [putL, setL, evL, getL]
    refine HL_nil ?_
    refine hK274 _ _ ?_
    refine HT_ret ?_
    exact hQr _ _ [.bool true] ⟨rfl, trivial⟩ (retH (fun r => spec_GoodSet.post sb s F0 r _ _) (show some _ = some r from H) ⟨rfl, hH⟩)
def spec_GoodRune.f (p0 : Int) : Option Bool := (spec_l1In.f p0 0 1114111).bind fun u3 => if u3 = true then ((spec_l1In.f p0 55296 57343).bind fun u5 => some (!u5)) else (some false)
def spec_GoodRune.post (sb s : St) (F0 : Fp) (r : Bool) : Value → St → Prop := fun v s' => v = .bool r ∧ Hp sb s F0 s' []
set_option maxRecDepth 100000 in
set_option maxHeartbeats 4000000 in
theorem spec_GoodRune.ok (sb s : St) (F0 : Fp) (p0 : Int) (hH : Hp sb s F0 s []) (r : Bool) (H : spec_GoodRune.f p0 = some r) : GCall Try.prog 148 #[.int .i64 p0] s (spec_GoodRune.post sb s F0 r) := by
 refine GCall_ofk [.tmp 2] [.int .i64 p0, undef, undef, undef, undef, undef, undef, undef, undef, undef] Try.func148 rfl rfl rfl ?_
 intro w Q hQr hQn hQp
 replace H := topE H
 unfold spec_GoodRune.f at H
 refine HT_seq_k ?_
 intro K1 hK1
 refine HT_region ?_
 refine HL_cons rfl ?_
 refine o_assign ?_
 try dsimp only [putL, setL, evL, getL]
 refine HL_nil ?_
 refine hK1 _ _ ?_
 refine HT_seq_k ?_
 intro K2 hK2
 refine HT_region ?_
 refine HL_cons rfl ?_
 refine o_move ?_
 try dsimp only [putL, setL, evL, getL]
 replace H := headE H
 obtain ⟨u3, hu3, H⟩ := H
 refine HL_cons rfl ?_
 refine o_call (args := #[.int .i64 p0, .int .i64 0, .int .i64 1114111]) Try.func108 rfl rfl rfl (spec_l1In.ok sb s no p0 0 1114111 (Hp.own hH.bs) _ hu3) ?_
 rintro _ s3 ⟨rfl, hD⟩
 replace hH := hH.back0 hD (Up.refl _ _ _)
 clear hD
 dsimp only [addC, setC, rmC, selC, getC] at hH
 try dsimp only [putL, setL, evL, getL]
 refine HL_cons rfl ?_
 refine o_move ?_
 try dsimp only [putL, setL, evL, getL]
 rcases Bool.eq_false_or_eq_true u3 with hb4 | hb4
 ·replace H := iteT hb4 H
  refine HL_want ?_ ?_
  ·exact wantT (j := 2) (b := true) (t := 5) (c := u3) rfl rfl rfl rfl hb4
  refine o_move ?_
  try dsimp only [putL, setL, evL, getL]
  replace H := headE H
  obtain ⟨u5, hu5, H⟩ := H
  refine HL_want ?_ ?_
  ·exact wantT (j := 2) (b := true) (t := 5) (c := u3) rfl rfl rfl rfl hb4
  refine o_call (args := #[.int .i64 p0, .int .i64 55296, .int .i64 57343]) Try.func108 rfl rfl rfl (spec_l1In.ok sb s3 no p0 55296 57343 (Hp.own hH.bs) _ hu5) ?_
  rintro _ s5 ⟨rfl, hD⟩
  replace hH := hH.back0 hD (Up.refl _ _ _)
  clear hD
  dsimp only [addC, setC, rmC, selC, getC] at hH
  try dsimp only [putL, setL, evL, getL]
  refine HL_want ?_ ?_
  ·exact wantT (j := 2) (b := true) (t := 5) (c := u3) rfl rfl rfl rfl hb4
  refine o_not rfl ?_
  try dsimp only [putL, setL, evL, getL]
  refine HL_cons rfl ?_
  refine o_pickT rfl hb4 ?_
  try dsimp only [putL, setL, evL, getL]
  refine HL_cons rfl ?_
  refine o_assign ?_
  try dsimp only [putL, setL, evL, getL]
  refine HL_nil ?_
  refine hK2 _ _ ?_
  refine HT_ret ?_
  exact hQr _ _ [.bool (!u5)] ⟨rfl, trivial⟩ (retH (fun r => spec_GoodRune.post sb s F0 r _ _) (show some _ = some r from H) ⟨rfl, hH⟩)
 ·replace H := iteF hb4 H
  refine HL_skip ?_ ?_
  ·exact wantF (j := 2) (b := true) (t := 5) (c := u3) rfl rfl rfl rfl hb4
  try dsimp only [putL, setL, evL, getL]
  refine HL_skip ?_ ?_
  ·exact wantF (j := 2) (b := true) (t := 5) (c := u3) rfl rfl rfl rfl hb4
  try dsimp only [putL, setL, evL, getL]
  refine HL_skip ?_ ?_
  ·exact wantF (j := 2) (b := true) (t := 5) (c := u3) rfl rfl rfl rfl hb4
  try dsimp only [putL, setL, evL, getL]
  refine HL_cons rfl ?_
  refine o_pickF rfl hb4 ?_
  try dsimp only [putL, setL, evL, getL]
  refine HL_cons rfl ?_
  refine o_assign ?_
  try dsimp only [putL, setL, evL, getL]
  refine HL_nil ?_
  refine hK2 _ _ ?_
  refine HT_ret ?_
  exact hQr _ _ [.bool false] ⟨rfl, trivial⟩ (retH (fun r => spec_GoodRune.post sb s F0 r _ _) (show some _ = some r from H) ⟨rfl, hH⟩)
def spec_l1AllRunes.l1 (p0 : List (Int)) : Nat → Int → Option (Lo Unit Bool)
 | 0, _ => none
 | kf + 1, x48 => if (decide (x48 < (p0.length : Int))) = true then ((rd? p0 x48).bind fun u66 => (spec_GoodRune.f u66).bind fun u68 => if (!u68) = true then ((some false).bind fun z => some (Lo.ret z)) else (spec_l1AllRunes.l1 p0 kf (IntKind.i64.wrap (x48 + 1)))) else (some (Lo.go ()))
def spec_l1AllRunes.f (p0 : List (Int)) : Option Bool := (spec_l1AllRunes.l1 p0 ((((p0.length : Int)) - (0)).toNat + 2) 0).bind fun (o : Lo Unit Bool) => match o with | .go () => (some (decide ((p0.length : Int) ≤ 1000))) | .ret z => some z
def spec_l1AllRunes.post (sb s : St) (F0 : Fp) (r : Bool) : Value → St → Prop := fun v s' => v = .bool r ∧ Hp sb s F0 s' []
set_option maxRecDepth 100000 in
set_option maxHeartbeats 4000000 in
theorem spec_l1AllRunes.ok (sb s : St) (F0 : Fp) (A0p : Option Addr) (c0p : Nat) (p0 : List (Int)) (HRp0 : Rd KI sb A0p c0p p0) (hH : Hp sb s F0 s []) (r : Bool) (H : spec_l1AllRunes.f p0 = some r) : GCall Try.prog 119 #[.slice A0p p0.length c0p] s (spec_l1AllRunes.post sb s F0 r) := by
 refine GCall_ofk [.tmp 2] [.slice A0p p0.length c0p, undef, undef, undef, undef, undef, undef, undef, undef, undef, undef, undef, undef, undef, undef, undef, undef, undef] Try.func119 rfl rfl rfl ?_
 intro w Q hQr hQn hQp
 replace H := topE H
 unfold spec_l1AllRunes.f at H
 refine HT_seq_k ?_
 intro K1 hK1
 refine HT_region ?_
 refine HL_cons rfl ?_
 refine o_assign ?_
 try dsimp only [putL, setL, evL, getL]
 refine HL_nil ?_
 refine hK1 _ _ ?_
 refine HT_seq_k ?_
 intro K2 hK2
 refine HT_seq_k ?_
 intro K3 hK3
 refine HT_region ?_
 refine HL_cons rfl ?_
 refine o_move ?_
 try dsimp only [putL, setL, evL, getL]
 refine HL_cons rfl ?_
 refine o_len rfl Try.underlying24 ?_
 try dsimp only [putL, setL, evL, getL]
 refine HL_cons rfl ?_
 refine o_move ?_
 try dsimp only [putL, setL, evL, getL]
 refine HL_nil ?_
 refine hK3 _ _ ?_
 refine joinH H fun G4 hG4 H => ?_
 refine HT_toK (fun l' s' => G4 (.go ()) = some r ∧ l' = [.slice A0p p0.length c0p, undef, getL l' 2, undef, getL l' 4, .slice A0p p0.length c0p, .int .i64 (p0.length : Int), getL l' 7, getL l' 8, getL l' 9, getL l' 10, getL l' 11, getL l' 12, getL l' 13, getL l' 14, undef, undef, undef] ∧ Hp sb s F0 s' []) ?_ ?_
 ·intro K4 hK4
  refine HT_block ?_
  refine HT_loopK (fun kf l' s' => ∃ (x48 : Int), (spec_l1AllRunes.l1 p0 kf x48).bind G4 = some r ∧ l' = [.slice A0p p0.length c0p, undef, getL l' 2, undef, getL l' 4, .slice A0p p0.length c0p, .int .i64 (p0.length : Int), .int .i64 x48, getL l' 8, getL l' 9, getL l' 10, getL l' 11, getL l' 12, getL l' 13, getL l' 14, undef, undef, undef] ∧ Hp sb s F0 s' []) ((((p0.length : Int)) - (0)).toNat + 2) ⟨0, H, rfl, hH⟩ ?_
  rintro kf l' s60 ⟨x48, H, hl, hH⟩ K60 hK60
  generalize getL l' 2 = j2, getL l' 4 = j4, getL l' 8 = j8, getL l' 9 = j9, getL l' 10 = j10, getL l' 11 = j11, getL l' 12 = j12, getL l' 13 = j13, getL l' 14 = j14 at hl
  subst hl
  cases kf with
  | zero => simp [spec_l1AllRunes.l1] at H
  | succ kf =>
   rw [spec_l1AllRunes.l1] at H
   refine HT_seq_k ?_
   intro K61 hK61
   refine HT_region ?_
   refine HL_cons rfl ?_
   refine o_bin rfl rfl rfl ?_
   try dsimp only [putL, setL, evL, getL]
   refine HL_nil ?_
   refine hK61 _ _ ?_
   refine HT_seq_k ?_
   intro K62 hK62
   rcases Bool.eq_false_or_eq_true (decide (x48 < (p0.length : Int))) with hb63 | hb63
   ·replace H := iteT hb63 H
    refine HT_true (congrArg Value.bool hb63) ?_
    refine HT_skip ?_
    refine hK62 _ _ ?_
    refine HT_seq_k ?_
    intro K64 hK64
    refine HT_block ?_
    refine HT_seq_k ?_
    intro K65 hK65
    refine HT_region ?_
    replace H := headE H
    obtain ⟨u66, hu66, H⟩ := H
    obtain ⟨b66, o66, cs66, hr66, hh66, hel66⟩ := Rd.elb HRp0 hu66
    obtain rfl := hr66
    refine HL_cons rfl ?_
    refine hel66 s60 rfl rfl Try.underlying24 tI3 ?_
    try dsimp only [putL, setL, evL, getL]
    refine HL_cons rfl ?_
    refine o_load' rfl Try.underlying3 rfl ((hh66 hH.bs.mono) 0 _ rfl) ?_
    try dsimp only [putL, setL, evL, getL]
    refine HL_cons rfl ?_
    refine o_assign ?_
    try dsimp only [putL, setL, evL, getL]
    refine HL_nil ?_
    refine hK65 _ _ ?_
    refine HT_seq_k ?_
    intro K67 hK67
    refine HT_region ?_
    refine HL_cons rfl ?_
    refine o_move ?_
    try dsimp only [putL, setL, evL, getL]
    replace H := headE H
    obtain ⟨u68, hu68, H⟩ := H
    refine HL_cons rfl ?_
    refine o_call (args := #[.int .i64 u66]) Try.func148 rfl rfl rfl (spec_GoodRune.ok sb s60 no u66 (Hp.own hH.bs) _ hu68) ?_
    rintro _ s68 ⟨rfl, hD⟩
    replace hH := hH.back0 hD (Up.refl _ _ _)
    clear hD
    dsimp only [addC, setC, rmC, selC, getC] at hH
    try dsimp only [putL, setL, evL, getL]
    refine HL_cons rfl ?_
    refine o_not rfl ?_
    try dsimp only [putL, setL, evL, getL]
    refine HL_nil ?_
    refine hK67 _ _ ?_
    rcases Bool.eq_false_or_eq_true (!u68) with hb69 | hb69
    ·replace H := iteT hb69 H
     refine HT_true (congrArg Value.bool hb69) ?_
     refine HT_seq_k ?_
     intro K70 hK70
     refine HT_region ?_
     refine HL_cons rfl ?_
     refine o_assign ?_
     try dsimp only [putL, setL, evL, getL]
     refine HL_nil ?_
     refine hK70 _ _ ?_
     refine HT_ret ?_
     replace H := escH (fun z hz => hG4 _ hz) H
     exact hQr _ _ [.bool false] ⟨rfl, trivial⟩ (retH (fun r => spec_l1AllRunes.post sb s F0 r _ _) (show some _ = some r from H) ⟨rfl, hH⟩)
    ·replace H := iteF hb69 H
     refine HT_false (congrArg Value.bool hb69) ?_
     refine HT_skip ?_
     refine hK64 _ _ ?_
     refine HT_region ?_
     refine HL_cons rfl ?_
     refine o_bin rfl rfl rfl ?_
     try dsimp only [putL, setL, evL, getL]
     refine HL_cons rfl ?_
     refine o_move ?_
     try dsimp only [putL, setL, evL, getL]
     refine HL_nil ?_
     exact hK60 _ _ ⟨kf, Nat.lt_succ_self kf, IntKind.i64.wrap (x48 + 1), H, rfl, hH⟩
   ·replace H := iteF hb63 H
    refine HT_false (congrArg Value.bool hb63) ?_
    refine HT_exit ?_
    exact hK4 _ _ ⟨H, rfl, hH⟩
 ·rintro l' s71 ⟨H, hl, hH⟩
  generalize getL l' 2 = j2, getL l' 4 = j4, getL l' 7 = j7, getL l' 8 = j8, getL l' 9 = j9, getL l' 10 = j10, getL l' 11 = j11, getL l' 12 = j12, getL l' 13 = j13, getL l' 14 = j14 at hl
  subst hl
  replace H := hG4 _ H
  try dsimp only at H
  refine hK2 _ _ ?_
  refine HT_seq_k ?_
  intro K72 hK72
  refine HT_region ?_
  refine HL_cons rfl ?_
  refine o_move ?_
  try dsimp only [putL, setL, evL, getL]
  refine HL_cons rfl ?_
  refine o_len rfl Try.underlying24 ?_
  try dsimp only [putL, setL, evL, getL]
  refine HL_cons rfl ?_
  refine o_bin rfl rfl rfl ?_
  try dsimp only [putL, setL, evL, getL]
  refine HL_cons rfl ?_
  refine o_assign ?_
  try dsimp only [putL, setL, evL, getL]
  refine HL_nil ?_
  refine hK72 _ _ ?_
  refine HT_ret ?_
  exact hQr _ _ [.bool (decide ((p0.length : Int) ≤ 1000))] ⟨rfl, trivial⟩ (retH (fun r => spec_l1AllRunes.post sb s F0 r _ _) (show some _ = some r from H) ⟨rfl, hH⟩)
def spec_l5Node.f (p0_0 : Int) (p0_1 : List (Int)) : Option Bool := ((spec_l5Arity.f p0_0).bind fun u30 => if (decide (u30 < 0)) = true then (some true) else (if (p0_0 != 2) = true then (if (decide ((p0_1.length : Int) > 0)) = true then (some true) else ((spec_GoodSet.f p0_1).bind fun u34 => some (!u34))) else ((spec_GoodSet.f p0_1).bind fun u35 => some (!u35)))).bind fun (o : Bool) => match o with | x29 => (if x29 = true then (some false) else ((spec_l1AllRunes.f p0_1).bind fun u40 => some u40))
def spec_l5Node.post (sb s : St) (F0 : Fp) (r : Bool) : Value → St → Prop := fun v s' => v = .bool r ∧ Hp sb s F0 s' []
set_option maxRecDepth 100000 in
set_option maxHeartbeats 4000000 in
theorem spec_l5Node.ok (sb s : St) (F0 : Fp) (p0_0 : Int) (A0_1p : Option Addr) (c0_1p : Nat) (p0_1 : List (Int)) (HRp0_1 : Rd KI sb A0_1p c0_1p p0_1) (hH : Hp sb s F0 s []) (r : Bool) (H : spec_l5Node.f p0_0 p0_1 = some r) : GCall Try.prog 234 #[.agg #[.int .i64 p0_0, .slice A0_1p p0_1.length c0_1p]] s (spec_l5Node.post sb s F0 r) := by
 refine GCall_ofk [.tmp 2] [.agg #[.int .i64 p0_0, .slice A0_1p p0_1.length c0_1p], undef, undef, undef, undef, undef, undef, undef, undef, undef, undef, undef, undef, undef, undef, undef, undef, undef, undef, undef, undef, undef, undef, undef, undef, undef, undef] Try.func234 rfl rfl rfl ?_
 intro w Q hQr hQn hQp
 replace H := topE H
 unfold spec_l5Node.f at H
 refine HT_seq_k ?_
 intro K1 hK1
 refine HT_region ?_
 refine HL_cons rfl ?_
 refine o_boxH hH rfl ?_
 intro b2 s2 hH' hG
 replace hH : Hp sb s F0 s2 [Ck.ov b2 [.int .i64 p0_0, .slice A0_1p p0_1.length c0_1p] 139] := hH'
 clear hH' hG
 try dsimp only [putL, setL, evL, getL]
 refine HL_cons rfl ?_
 refine o_assign ?_
 try dsimp only [putL, setL, evL, getL]
 refine HL_nil ?_
 refine hK1 _ _ ?_
 refine HT_seq_k ?_
 intro K21 hK21
 refine joinH H fun G22 hG22 H => ?_
 refine HT_joinK (fun l' s' => ∃ (x29 : Bool), G22 x29 = some r ∧ l' = [.agg #[.int .i64 p0_0, .slice A0_1p p0_1.length c0_1p], .pointer (some ⟨b2, 0, none⟩), .bool false, getL l' 3, getL l' 4, getL l' 5, getL l' 6, getL l' 7, getL l' 8, getL l' 9, getL l' 10, getL l' 11, getL l' 12, getL l' 13, getL l' 14, getL l' 15, getL l' 16, getL l' 17, getL l' 18, getL l' 19, getL l' 20, getL l' 21, getL l' 22, .bool x29, undef, undef, undef] ∧ Hp sb s F0 s' [Ck.ov b2 [.int .i64 p0_0, .slice A0_1p p0_1.length c0_1p] 139]) ?_ ?_
 ·intro K22 hK22
  refine HT_region ?_
  refine HL_cons rfl ?_
  refine o_faddr' (ft := 3) (off := 0) rfl Try.underlying139 rfl tI3 (by decide) ?_
  try dsimp only [putL, setL, evL, getL]
  refine HL_cons rfl ?_
  refine o_load' rfl Try.underlying3 rfl (hH.hasv 0 rfl rfl) ?_
  try dsimp only [putL, setL, evL, getL]
  replace H := headE H
  obtain ⟨u30, hu30, H⟩ := H
  refine HL_cons rfl ?_
  refine o_call (args := #[.int .i64 p0_0]) Try.func223 rfl rfl rfl (spec_l5Arity.ok sb s2 no p0_0 (Hp.own hH.bs) _ hu30) ?_
  rintro _ s30 ⟨rfl, hD⟩
  replace hH := hH.back0 hD (Up.refl _ _ _)
  clear hD
  dsimp only [addC, setC, rmC, selC, getC] at hH
  try dsimp only [putL, setL, evL, getL]
  refine HL_cons rfl ?_
  refine o_bin rfl rfl rfl ?_
  try dsimp only [putL, setL, evL, getL]
  refine HL_cons rfl ?_
  refine o_move ?_
  try dsimp only [putL, setL, evL, getL]
  rcases Bool.eq_false_or_eq_true (decide (u30 < 0)) with hb31 | hb31
  ·replace H := iteT hb31 H
   refine HL_skip ?_ ?_
   ·exact wantF (j := 4) (b := false) (t := 7) (c := decide (u30 < 0)) rfl rfl rfl rfl hb31
   try dsimp only [putL, setL, evL, getL]
   refine HL_skip ?_ ?_
   ·exact wantF (j := 4) (b := false) (t := 7) (c := decide (u30 < 0)) rfl rfl rfl rfl hb31
   try dsimp only [putL, setL, evL, getL]
   refine HL_skip ?_ ?_
   ·exact wantF (j := 4) (b := false) (t := 7) (c := decide (u30 < 0)) rfl rfl rfl rfl hb31
   try dsimp only [putL, setL, evL, getL]
   refine HL_skip ?_ ?_
   ·exact wantF (j := 4) (b := false) (t := 7) (c := decide (u30 < 0)) rfl rfl rfl rfl hb31
   try dsimp only [putL, setL, evL, getL]
   refine HL_skip ?_ ?_
   ·exact wantU (j := 8) (b := true) (t := 11) rfl rfl rfl rfl
   try dsimp only [putL, setL, evL, getL]
   refine HL_skip ?_ ?_
   ·exact wantU (j := 8) (b := true) (t := 11) rfl rfl rfl rfl
   try dsimp only [putL, setL, evL, getL]
   refine HL_skip ?_ ?_
   ·exact wantU (j := 8) (b := true) (t := 11) rfl rfl rfl rfl
   try dsimp only [putL, setL, evL, getL]
   refine HL_skip ?_ ?_
   ·exact wantU (j := 8) (b := true) (t := 11) rfl rfl rfl rfl
   try dsimp only [putL, setL, evL, getL]
   refine HL_skip ?_ ?_
   ·exact wantF (j := 4) (b := false) (t := 7) (c := decide (u30 < 0)) rfl rfl rfl rfl hb31
   try dsimp only [putL, setL, evL, getL]
   refine HL_cons rfl ?_
   refine o_pickT rfl hb31 ?_
   try dsimp only [putL, setL, evL, getL]
   refine HL_cons rfl ?_
   refine o_move ?_
   try dsimp only [putL, setL, evL, getL]
   refine HL_skip ?_ ?_
   ·exact wantF (j := 15) (b := false) (t := 18) (c := true) rfl rfl rfl rfl rfl
   try dsimp only [putL, setL, evL, getL]
   refine HL_skip ?_ ?_
   ·exact wantF (j := 15) (b := false) (t := 18) (c := true) rfl rfl rfl rfl rfl
   try dsimp only [putL, setL, evL, getL]
   refine HL_skip ?_ ?_
   ·exact wantF (j := 15) (b := false) (t := 18) (c := true) rfl rfl rfl rfl rfl
   try dsimp only [putL, setL, evL, getL]
   refine HL_skip ?_ ?_
   ·exact wantF (j := 15) (b := false) (t := 18) (c := true) rfl rfl rfl rfl rfl
   try dsimp only [putL, setL, evL, getL]
   refine HL_cons rfl ?_
   refine o_pickT rfl rfl ?_
   try dsimp only [putL, setL, evL, getL]
   refine HL_nil ?_
   exact hK22 _ _ ⟨true, H, rfl, hH⟩
  ·replace H := iteF hb31 H
   refine HL_want ?_ ?_
   ·exact wantT (j := 4) (b := false) (t := 7) (c := decide (u30 < 0)) rfl rfl rfl rfl hb31
   refine o_faddr' (ft := 3) (off := 0) rfl Try.underlying139 rfl tI3 (by decide) ?_
   try dsimp only [putL, setL, evL, getL]
   refine HL_want ?_ ?_
   ·exact wantT (j := 4) (b := false) (t := 7) (c := decide (u30 < 0)) rfl rfl rfl rfl hb31
   refine o_load' rfl Try.underlying3 rfl (hH.hasv 0 rfl rfl) ?_
   try dsimp only [putL, setL, evL, getL]
   refine HL_want ?_ ?_
   ·exact wantT (j := 4) (b := false) (t := 7) (c := decide (u30 < 0)) rfl rfl rfl rfl hb31
   refine o_bin rfl rfl rfl ?_
   try dsimp only [putL, setL, evL, getL]
   refine HL_want ?_ ?_
   ·exact wantT (j := 4) (b := false) (t := 7) (c := decide (u30 < 0)) rfl rfl rfl rfl hb31
   refine o_move ?_
   try dsimp only [putL, setL, evL, getL]
   rcases Bool.eq_false_or_eq_true (p0_0 != 2) with hb32 | hb32
   ·replace H := iteT hb32 H
    refine HL_want ?_ ?_
    ·exact wantT (j := 8) (b := true) (t := 11) (c := p0_0 != 2) rfl rfl rfl rfl hb32
    refine o_faddr' (ft := 24) (off := 1) rfl Try.underlying139 rfl tI24 (by decide) ?_
    try dsimp only [putL, setL, evL, getL]
    refine HL_want ?_ ?_
    ·exact wantT (j := 8) (b := true) (t := 11) (c := p0_0 != 2) rfl rfl rfl rfl hb32
    refine o_load' rfl Try.underlying24 rfl (hH.hasv 0 rfl rfl) ?_
    try dsimp only [putL, setL, evL, getL]
    refine HL_want ?_ ?_
    ·exact wantT (j := 8) (b := true) (t := 11) (c := p0_0 != 2) rfl rfl rfl rfl hb32
    refine o_len rfl Try.underlying24 ?_
    try dsimp only [putL, setL, evL, getL]
    refine HL_want ?_ ?_
    ·exact wantT (j := 8) (b := true) (t := 11) (c := p0_0 != 2) rfl rfl rfl rfl hb32
    refine o_bin rfl rfl rfl ?_
    try dsimp only [putL, setL, evL, getL]
    refine HL_want ?_ ?_
    ·exact wantT (j := 4) (b := false) (t := 7) (c := decide (u30 < 0)) rfl rfl rfl rfl hb31
    refine o_pickT rfl hb32 ?_
    try dsimp only [putL, setL, evL, getL]
    refine HL_cons rfl ?_
    refine o_pickF rfl hb31 ?_
    try dsimp only [putL, setL, evL, getL]
    refine HL_cons rfl ?_
    refine o_move ?_
    try dsimp only [putL, setL, evL, getL]
    rcases Bool.eq_false_or_eq_true (decide ((p0_1.length : Int) > 0)) with hb33 | hb33
    ·replace H := iteT hb33 H
     refine HL_skip ?_ ?_
     ·exact wantF (j := 15) (b := false) (t := 18) (c := decide ((p0_1.length : Int) > 0)) rfl rfl rfl rfl hb33
     try dsimp only [putL, setL, evL, getL]
     refine HL_skip ?_ ?_
     ·exact wantF (j := 15) (b := false) (t := 18) (c := decide ((p0_1.length : Int) > 0)) rfl rfl rfl rfl hb33
     try dsimp only [putL, setL, evL, getL]
     refine HL_skip ?_ ?_
     ·exact wantF (j := 15) (b := false) (t := 18) (c := decide ((p0_1.length : Int) > 0)) rfl rfl rfl rfl hb33
     try dsimp only [putL, setL, evL, getL]
     refine HL_skip ?_ ?_
     ·exact wantF (j := 15) (b := false) (t := 18) (c := decide ((p0_1.length : Int) > 0)) rfl rfl rfl rfl hb33
     try dsimp only [putL, setL, evL, getL]
     refine HL_cons rfl ?_
     refine o_pickT rfl hb33 ?_
     try dsimp only [putL, setL, evL, getL]
     refine HL_nil ?_
     exact hK22 _ _ ⟨true, H, rfl, hH⟩
    ·replace H := iteF hb33 H
     refine HL_want ?_ ?_
     ·exact wantT (j := 15) (b := false) (t := 18) (c := decide ((p0_1.length : Int) > 0)) rfl rfl rfl rfl hb33
     refine o_faddr' (ft := 24) (off := 1) rfl Try.underlying139 rfl tI24 (by decide) ?_
     try dsimp only [putL, setL, evL, getL]
     refine HL_want ?_ ?_
     ·exact wantT (j := 15) (b := false) (t := 18) (c := decide ((p0_1.length : Int) > 0)) rfl rfl rfl rfl hb33
     refine o_load' rfl Try.underlying24 rfl (hH.hasv 0 rfl rfl) ?_
     try dsimp only [putL, setL, evL, getL]
     replace H := headE H
     obtain ⟨u34, hu34, H⟩ := H
     refine HL_want ?_ ?_
     ·exact wantT (j := 15) (b := false) (t := 18) (c := decide ((p0_1.length : Int) > 0)) rfl rfl rfl rfl hb33
     refine o_call (args := #[.slice A0_1p p0_1.length c0_1p]) Try.func240 rfl rfl rfl (spec_GoodSet.ok sb s30 no A0_1p c0_1p p0_1 HRp0_1 (Hp.own hH.bs) _ hu34) ?_
     rintro _ s34 ⟨rfl, hD⟩
     replace hH := hH.back0 hD (Up.refl _ _ _)
     clear hD
     dsimp only [addC, setC, rmC, selC, getC] at hH
     try dsimp only [putL, setL, evL, getL]
     refine HL_want ?_ ?_
     ·exact wantT (j := 15) (b := false) (t := 18) (c := decide ((p0_1.length : Int) > 0)) rfl rfl rfl rfl hb33
     refine o_not rfl ?_
     try dsimp only [putL, setL, evL, getL]
     refine HL_cons rfl ?_
     refine o_pickF rfl hb33 ?_
     try dsimp only [putL, setL, evL, getL]
     refine HL_nil ?_
     exact hK22 _ _ ⟨!u34, H, rfl, hH⟩
   ·replace H := iteF hb32 H
    refine HL_skip ?_ ?_
    ·exact wantF (j := 8) (b := true) (t := 11) (c := p0_0 != 2) rfl rfl rfl rfl hb32
    try dsimp only [putL, setL, evL, getL]
    refine HL_skip ?_ ?_
    ·exact wantF (j := 8) (b := true) (t := 11) (c := p0_0 != 2) rfl rfl rfl rfl hb32
    try dsimp only [putL, setL, evL, getL]
    refine HL_skip ?_ ?_
    ·exact wantF (j := 8) (b := true) (t := 11) (c := p0_0 != 2) rfl rfl rfl rfl hb32
    try dsimp only [putL, setL, evL, getL]
    refine HL_skip ?_ ?_
    ·exact wantF (j := 8) (b := true) (t := 11) (c := p0_0 != 2) rfl rfl rfl rfl hb32
    try dsimp only [putL, setL, evL, getL]
    refine HL_want ?_ ?_
    ·exact wantT (j := 4) (b := false) (t := 7) (c := decide (u30 < 0)) rfl rfl rfl rfl hb31
    refine o_pickF rfl hb32 ?_
    try dsimp only [putL, setL, evL, getL]
    refine HL_cons rfl ?_
    refine o_pickF rfl hb31 ?_
    try dsimp only [putL, setL, evL, getL]
    refine HL_cons rfl ?_
    refine o_move ?_
    try dsimp only [putL, setL, evL, getL]
    refine HL_want ?_ ?_
    ·exact wantT (j := 15) (b := false) (t := 18) (c := false) rfl rfl rfl rfl rfl
    refine o_faddr' (ft := 24) (off := 1) rfl Try.underlying139 rfl tI24 (by decide) ?_
    try dsimp only [putL, setL, evL, getL]
    refine HL_want ?_ ?_
    ·exact wantT (j := 15) (b := false) (t := 18) (c := false) rfl rfl rfl rfl rfl
    refine o_load' rfl Try.underlying24 rfl (hH.hasv 0 rfl rfl) ?_
    try dsimp only [putL, setL, evL, getL]
    replace H := headE H
    obtain ⟨u35, hu35, H⟩ := H
    refine HL_want ?_ ?_
    ·exact wantT (j := 15) (b := false) (t := 18) (c := false) rfl rfl rfl rfl rfl
    refine o_call (args := #[.slice A0_1p p0_1.length c0_1p]) Try.func240 rfl rfl rfl (spec_GoodSet.ok sb s30 no A0_1p c0_1p p0_1 HRp0_1 (Hp.own hH.bs) _ hu35) ?_
    rintro _ s35 ⟨rfl, hD⟩
    replace hH := hH.back0 hD (Up.refl _ _ _)
    clear hD
    dsimp only [addC, setC, rmC, selC, getC] at hH
    try dsimp only [putL, setL, evL, getL]
    refine HL_want ?_ ?_
    ·exact wantT (j := 15) (b := false) (t := 18) (c := false) rfl rfl rfl rfl rfl
    refine o_not rfl ?_
    try dsimp only [putL, setL, evL, getL]
    refine HL_cons rfl ?_
    refine o_pickF rfl rfl ?_
    try dsimp only [putL, setL, evL, getL]
    refine HL_nil ?_
    exact hK22 _ _ ⟨!u35, H, rfl, hH⟩
 ·rintro l' s36 ⟨x29, H, hl, hH⟩
  generalize getL l' 3 = j3, getL l' 4 = j4, getL l' 5 = j5, getL l' 6 = j6, getL l' 7 = j7, getL l' 8 = j8, getL l' 9 = j9, getL l' 10 = j10, getL l' 11 = j11, getL l' 12 = j12, getL l' 13 = j13, getL l' 14 = j14, getL l' 15 = j15, getL l' 16 = j16, getL l' 17 = j17, getL l' 18 = j18, getL l' 19 = j19, getL l' 20 = j20, getL l' 21 = j21, getL l' 22 = j22 at hl
  subst hl
  replace H := hG22 _ H
  try dsimp only at H
  rcases Bool.eq_false_or_eq_true x29 with hb37 | hb37
  ·replace H := iteT hb37 H
   refine HT_true (congrArg Value.bool hb37) ?_
   refine HT_seq_k ?_
   intro K38 hK38
   refine HT_region ?_
   refine HL_cons rfl ?_
   refine o_assign ?_
   try dsimp only [putL, setL, evL, getL]
   refine HL_nil ?_
   refine hK38 _ _ ?_
   refine HT_ret ?_
   exact hQr _ _ [.bool false] ⟨rfl, trivial⟩ (retH (fun r => spec_l5Node.post sb s F0 r _ _) (show some _ = some r from H) ⟨rfl, hH.sel [] (by decide)⟩)
  ·replace H := iteF hb37 H
   refine HT_false (congrArg Value.bool hb37) ?_
   refine HT_skip ?_
   refine hK21 _ _ ?_
   refine HT_seq_k ?_
   intro K39 hK39
   refine HT_region ?_
   refine HL_cons rfl ?_
   refine o_faddr' (ft := 24) (off := 1) rfl Try.underlying139 rfl tI24 (by decide) ?_
   try dsimp only [putL, setL, evL, getL]
   refine HL_cons rfl ?_
   refine o_load' rfl Try.underlying24 rfl (hH.hasv 0 rfl rfl) ?_
   try dsimp only [putL, setL, evL, getL]
   replace H := headE H
   obtain ⟨u40, hu40, H⟩ := H
   refine HL_cons rfl ?_
   refine o_call (args := #[.slice A0_1p p0_1.length c0_1p]) Try.func119 rfl rfl rfl (spec_l1AllRunes.ok sb s36 no A0_1p c0_1p p0_1 HRp0_1 (Hp.own hH.bs) _ hu40) ?_
   rintro _ s40 ⟨rfl, hD⟩
   replace hH := hH.back0 hD (Up.refl _ _ _)
   clear hD
   dsimp only [addC, setC, rmC, selC, getC] at hH
   try dsimp only [putL, setL, evL, getL]
   refine HL_cons rfl ?_
   refine o_assign ?_
   try dsimp only [putL, setL, evL, getL]
   refine HL_nil ?_
   refine hK39 _ _ ?_
   refine HT_ret ?_
   exact hQr _ _ [.bool u40] ⟨rfl, trivial⟩ (retH (fun r => spec_l5Node.post sb s F0 r _ _) (show some _ = some r from H) ⟨rfl, hH.sel [] (by decide)⟩)
def spec_l5Good.l1 (p0 : List ((Int) × (List (Int)))) : Nat → Int → Int → Option (Lo Int Bool)
 | 0, _, _ => none
 | kf + 1, x272, x273 => if (decide (x273 < (p0.length : Int))) = true then ((rd? p0 x273).bind fun u378 => ((spec_l5Node.f u378.1 u378.2).bind fun u400 => if (!u400) = true then (some true) else ((spec_l5Arity.f u378.1).bind fun u402 => some (decide (x272 < u402)))).bind fun (o : Bool) => match o with | x399 => (if x399 = true then ((some false).bind fun z => some (Lo.ret z)) else ((spec_l5Arity.f u378.1).bind fun u406 => spec_l5Good.l1 p0 kf (IntKind.i64.wrap (x272 + (IntKind.i64.wrap (1 - u406)))) (IntKind.i64.wrap (x273 + 1))))) else (some (Lo.go x272))
def spec_l5Good.f (p0 : List ((Int) × (List (Int)))) : Option Bool := (spec_l5Good.l1 p0 ((((p0.length : Int)) - (0)).toNat + 2) 0 0).bind fun (o : Lo Int Bool) => match o with | .go x206 => (some (x206 == 1)) | .ret z => some z
def spec_l5Good.post (sb s : St) (F0 : Fp) (r : Bool) : Value → St → Prop := fun v s' => v = .bool r ∧ Hp sb s F0 s' []
set_option maxRecDepth 100000 in
set_option maxHeartbeats 4000000 in
theorem spec_l5Good.ok (sb s : St) (F0 : Fp) (A0p : Option Addr) (c0p : Nat) (p0 : List ((Int) × (List (Int)))) (HRp0 : Rd KS139 sb A0p c0p p0) (hH : Hp sb s F0 s []) (r : Bool) (H : spec_l5Good.f p0 = some r) : GCall Try.prog 220 #[.slice A0p p0.length c0p] s (spec_l5Good.post sb s F0 r) := by
 refine GCall_ofk [.tmp 2] [.slice A0p p0.length c0p, undef, undef, undef, undef, undef, undef, undef, undef, undef, undef, undef, undef, undef, undef, undef, undef, undef, undef, undef, undef, undef, undef, undef, undef, undef, undef, undef, undef, undef, undef] Try.func220 rfl rfl rfl ?_
 intro w Q hQr hQn hQp
 replace H := topE H
 unfold spec_l5Good.f at H
 refine HT_seq_k ?_
 intro K1 hK1
 refine HT_region ?_
 refine HL_cons rfl ?_
 refine o_assign ?_
 try dsimp only [putL, setL, evL, getL]
 refine HL_nil ?_
 refine hK1 _ _ ?_
 refine HT_seq_k ?_
 intro K2 hK2
 refine HT_region ?_
 refine HL_cons rfl ?_
 refine o_assign ?_
 try dsimp only [putL, setL, evL, getL]
 refine HL_nil ?_
 refine hK2 _ _ ?_
 refine HT_seq_k ?_
 intro K3 hK3
 refine HT_seq_k ?_
 intro K4 hK4
 refine HT_region ?_
 refine HL_cons rfl ?_
 refine o_move ?_
 try dsimp only [putL, setL, evL, getL]
 refine HL_cons rfl ?_
 refine o_len rfl Try.underlying57 ?_
 try dsimp only [putL, setL, evL, getL]
 refine HL_cons rfl ?_
 refine o_move ?_
 try dsimp only [putL, setL, evL, getL]
 refine HL_nil ?_
 refine hK4 _ _ ?_
 refine joinH H fun G5 hG5 H => ?_
 refine HT_toK (fun l' s' => ∃ (x206 : Int), G5 (.go x206) = some r ∧ l' = [.slice A0p p0.length c0p, undef, getL l' 2, .int .i64 x206, undef, getL l' 5, .slice A0p p0.length c0p, .int .i64 (p0.length : Int), getL l' 8, getL l' 9, getL l' 10, getL l' 11, getL l' 12, getL l' 13, getL l' 14, getL l' 15, getL l' 16, getL l' 17, getL l' 18, getL l' 19, getL l' 20, getL l' 21, getL l' 22, getL l' 23, getL l' 24, getL l' 25, getL l' 26, getL l' 27, getL l' 28, undef, undef] ∧ Hp sb s F0 s' []) ?_ ?_
 ·intro K5 hK5
  refine HT_block ?_
  refine HT_loopK (fun kf l' s' => ∃ (x272 : Int) (x273 : Int), (spec_l5Good.l1 p0 kf x272 x273).bind G5 = some r ∧ l' = [.slice A0p p0.length c0p, undef, getL l' 2, .int .i64 x272, undef, getL l' 5, .slice A0p p0.length c0p, .int .i64 (p0.length : Int), .int .i64 x273, getL l' 9, getL l' 10, getL l' 11, getL l' 12, getL l' 13, getL l' 14, getL l' 15, getL l' 16, getL l' 17, getL l' 18, getL l' 19, getL l' 20, getL l' 21, getL l' 22, getL l' 23, getL l' 24, getL l' 25, getL l' 26, getL l' 27, getL l' 28, undef, undef] ∧ Hp sb s F0 s' []) ((((p0.length : Int)) - (0)).toNat + 2) ⟨0, 0, H, rfl, hH⟩ ?_
  rintro kf l' s341 ⟨x272, x273, H, hl, hH⟩ K341 hK341
  generalize getL l' 2 = j2, getL l' 5 = j5, getL l' 9 = j9, getL l' 10 = j10, getL l' 11 = j11, getL l' 12 = j12, getL l' 13 = j13, getL l' 14 = j14, getL l' 15 = j15, getL l' 16 = j16, getL l' 17 = j17, getL l' 18 = j18, getL l' 19 = j19, getL l' 20 = j20, getL l' 21 = j21, getL l' 22 = j22, getL l' 23 = j23, getL l' 24 = j24, getL l' 25 = j25, getL l' 26 = j26, getL l' 27 = j27, getL l' 28 = j28 at hl
  subst hl
  cases kf with
  | zero => simp [spec_l5Good.l1] at H
  | succ kf =>
   rw [spec_l5Good.l1] at H
   refine HT_seq_k ?_
   intro K342 hK342
   refine HT_region ?_
   refine HL_cons rfl ?_
   refine o_bin rfl rfl rfl ?_
   try dsimp only [putL, setL, evL, getL]
   refine HL_nil ?_
   refine hK342 _ _ ?_
   refine HT_seq_k ?_
   intro K343 hK343
   rcases Bool.eq_false_or_eq_true (decide (x273 < (p0.length : Int))) with hb344 | hb344
   ·replace H := iteT hb344 H
    refine HT_true (congrArg Value.bool hb344) ?_
    refine HT_skip ?_
    refine hK343 _ _ ?_
    refine HT_seq_k ?_
    intro K376 hK376
    refine HT_block ?_
    refine HT_seq_k ?_
    intro K377 hK377
    refine HT_region ?_
    replace H := headE H
    obtain ⟨u378, hu378, H⟩ := H
    obtain ⟨b378, o378, cs378, hr378, hh378, hel378⟩ := Rd.elb HRp0 hu378
    obtain ⟨_, _, rfl, rfl, ⟨A379, c379, rfl, D379⟩⟩ := hr378
    refine HL_cons rfl ?_
    refine hel378 s341 rfl rfl Try.underlying57 tI139 ?_
    try dsimp only [putL, setL, evL, getL]
    refine HL_cons rfl ?_
    refine o_loads' [.int .i64 u378.1, .slice A379 u378.2.length c379] rfl Try.underlying139 rfl tI139 rfl (fun j v hj => (hh378 hH.bs.mono) j v hj) ?_
    try dsimp only [putL, setL, evL, getL]
    refine HL_cons rfl ?_
    refine o_allocH hH tI139 ?_
    intro b380 s380 hH' hG
    replace hH : Hp sb s F0 s380 [Ck.ov b380 [.int .i64 0, .slice none 0 0] 139] := hH'
    clear hH' hG
    try dsimp only [putL, setL, evL, getL]
    refine HL_cons rfl ?_
    refine o_stvH (vs := [.int .i64 u378.1, .slice A379 u378.2.length c379]) (us' := [.int .i64 u378.1, .slice A379 u378.2.length c379]) hH 0 rfl rfl rfl rfl rfl tI139 rfl (List.cons_ne_nil _ _) rfl rfl rfl ?_
    intro s381 hH'
    replace hH : Hp sb s F0 s381 [Ck.ov b380 [.int .i64 u378.1, .slice A379 u378.2.length c379] 139] := hH'
    clear hH'
    try dsimp only [putL, setL, evL, getL]
    refine HL_nil ?_
    refine hK377 _ _ ?_
    refine HT_seq_k ?_
    intro K394 hK394
    refine joinH H fun G395 hG395 H => ?_
    refine HT_joinK (fun l' s' => ∃ (x399 : Bool), G395 x399 = some r ∧ l' = [.slice A0p p0.length c0p, undef, j2, .int .i64 x272, undef, .pointer (some ⟨b380, 0, none⟩), .slice A0p p0.length c0p, .int .i64 (p0.length : Int), .int .i64 x273, .bool (decide (x273 < (p0.length : Int))), .pointer (some ⟨b378, o378, none⟩), .agg #[.int .i64 u378.1, .slice A379 u378.2.length c379], getL l' 12, getL l' 13, getL l' 14, getL l' 15, getL l' 16, getL l' 17, getL l' 18, getL l' 19, getL l' 20, .bool x399, j22, j23, j24, j25, j26, j27, j28, undef, undef] ∧ Hp sb s F0 s' [Ck.ov b380 [.int .i64 u378.1, .slice A379 u378.2.length c379] 139]) ?_ ?_
    ·intro K395 hK395
     refine HT_region ?_
     refine HL_cons rfl ?_
     refine o_loads' [.int .i64 u378.1, .slice A379 u378.2.length c379] rfl Try.underlying139 rfl tI139 rfl (hH.partv 0 rfl (0) [.int .i64 u378.1, .slice A379 u378.2.length c379] rfl) ?_
     try dsimp only [putL, setL, evL, getL]
     replace H := headE H
     obtain ⟨u400, hu400, H⟩ := H
     refine HL_cons rfl ?_
     refine o_call (args := #[.agg #[.int .i64 u378.1, .slice A379 u378.2.length c379]]) Try.func234 rfl rfl rfl (spec_l5Node.ok sb s381 no u378.1 A379 c379 u378.2 D379 (Hp.own hH.bs) _ hu400) ?_
     rintro _ s400 ⟨rfl, hD⟩
     replace hH := hH.back0 hD (Up.refl _ _ _)
     clear hD
     dsimp only [addC, setC, rmC, selC, getC] at hH
     try dsimp only [putL, setL, evL, getL]
     refine HL_cons rfl ?_
     refine o_not rfl ?_
     try dsimp only [putL, setL, evL, getL]
     refine HL_cons rfl ?_
     refine o_move ?_
     try dsimp only [putL, setL, evL, getL]
     rcases Bool.eq_false_or_eq_true (!u400) with hb401 | hb401
     ·replace H := iteT hb401 H
      refine HL_skip ?_ ?_
      ·exact wantF (j := 3) (b := false) (t := 15) (c := !u400) rfl rfl rfl rfl hb401
      try dsimp only [putL, setL, evL, getL]
      refine HL_skip ?_ ?_
      ·exact wantF (j := 3) (b := false) (t := 15) (c := !u400) rfl rfl rfl rfl hb401
      try dsimp only [putL, setL, evL, getL]
      refine HL_skip ?_ ?_
      ·exact wantF (j := 3) (b := false) (t := 15) (c := !u400) rfl rfl rfl rfl hb401
      try dsimp only [putL, setL, evL, getL]
      refine HL_skip ?_ ?_
      ·exact wantF (j := 3) (b := false) (t := 15) (c := !u400) rfl rfl rfl rfl hb401
      try dsimp only [putL, setL, evL, getL]
      refine HL_skip ?_ ?_
      ·exact wantF (j := 3) (b := false) (t := 15) (c := !u400) rfl rfl rfl rfl hb401
      try dsimp only [putL, setL, evL, getL]
      refine HL_cons rfl ?_
      refine o_pickT rfl hb401 ?_
      try dsimp only [putL, setL, evL, getL]
      refine HL_nil ?_
      exact hK395 _ _ ⟨true, H, rfl, hH⟩
     ·replace H := iteF hb401 H
      refine HL_want ?_ ?_
      ·exact wantT (j := 3) (b := false) (t := 15) (c := !u400) rfl rfl rfl rfl hb401
      refine o_move ?_
      try dsimp only [putL, setL, evL, getL]
      refine HL_want ?_ ?_
      ·exact wantT (j := 3) (b := false) (t := 15) (c := !u400) rfl rfl rfl rfl hb401
      refine o_faddr' (ft := 3) (off := 0) rfl Try.underlying139 rfl tI3 (by decide) ?_
      try dsimp only [putL, setL, evL, getL]
      refine HL_want ?_ ?_
      ·exact wantT (j := 3) (b := false) (t := 15) (c := !u400) rfl rfl rfl rfl hb401
      refine o_load' rfl Try.underlying3 rfl (hH.hasv 0 rfl rfl) ?_
      try dsimp only [putL, setL, evL, getL]
      replace H := headE H
      obtain ⟨u402, hu402, H⟩ := H
      refine HL_want ?_ ?_
      ·exact wantT (j := 3) (b := false) (t := 15) (c := !u400) rfl rfl rfl rfl hb401
      refine o_call (args := #[.int .i64 u378.1]) Try.func223 rfl rfl rfl (spec_l5Arity.ok sb s400 no u378.1 (Hp.own hH.bs) _ hu402) ?_
      rintro _ s402 ⟨rfl, hD⟩
      replace hH := hH.back0 hD (Up.refl _ _ _)
      clear hD
      dsimp only [addC, setC, rmC, selC, getC] at hH
      try dsimp only [putL, setL, evL, getL]
      refine HL_want ?_ ?_
      ·exact wantT (j := 3) (b := false) (t := 15) (c := !u400) rfl rfl rfl rfl hb401
      refine o_bin rfl rfl rfl ?_
      try dsimp only [putL, setL, evL, getL]
      refine HL_cons rfl ?_
      refine o_pickF rfl hb401 ?_
      try dsimp only [putL, setL, evL, getL]
      refine HL_nil ?_
      exact hK395 _ _ ⟨decide (x272 < u402), H, rfl, hH⟩
    ·rintro l' s403 ⟨x399, H, hl, hH⟩
     generalize getL l' 12 = j12, getL l' 13 = j13, getL l' 14 = j14, getL l' 15 = j15, getL l' 16 = j16, getL l' 17 = j17, getL l' 18 = j18, getL l' 19 = j19, getL l' 20 = j20 at hl
     subst hl
     replace H := hG395 _ H
     try dsimp only at H
     rcases Bool.eq_false_or_eq_true x399 with hb404 | hb404
     ·replace H := iteT hb404 H
      refine HT_true (congrArg Value.bool hb404) ?_
      refine HT_seq_k ?_
      intro K405 hK405
      refine HT_region ?_
      refine HL_cons rfl ?_
      refine o_assign ?_
      try dsimp only [putL, setL, evL, getL]
      refine HL_nil ?_
      refine hK405 _ _ ?_
      refine HT_ret ?_
      replace H := escH (fun z hz => hG5 _ hz) H
      exact hQr _ _ [.bool false] ⟨rfl, trivial⟩ (retH (fun r => spec_l5Good.post sb s F0 r _ _) (show some _ = some r from H) ⟨rfl, hH.sel [] (by decide)⟩)
     ·replace H := iteF hb404 H
      refine HT_false (congrArg Value.bool hb404) ?_
      refine HT_skip ?_
      refine hK394 _ _ ?_
      refine HT_region ?_
      refine HL_cons rfl ?_
      refine o_move ?_
      try dsimp only [putL, setL, evL, getL]
      refine HL_cons rfl ?_
      refine o_faddr' (ft := 3) (off := 0) rfl Try.underlying139 rfl tI3 (by decide) ?_
      try dsimp only [putL, setL, evL, getL]
      refine HL_cons rfl ?_
      refine o_load' rfl Try.underlying3 rfl (hH.hasv 0 rfl rfl) ?_
      try dsimp only [putL, setL, evL, getL]
      replace H := headE H
      obtain ⟨u406, hu406, H⟩ := H
      refine HL_cons rfl ?_
      refine o_call (args := #[.int .i64 u378.1]) Try.func223 rfl rfl rfl (spec_l5Arity.ok sb s403 no u378.1 (Hp.own hH.bs) _ hu406) ?_
      rintro _ s406 ⟨rfl, hD⟩
      replace hH := hH.back0 hD (Up.refl _ _ _)
      clear hD
      dsimp only [addC, setC, rmC, selC, getC] at hH
      try dsimp only [putL, setL, evL, getL]
      refine HL_cons rfl ?_
      refine o_bin rfl rfl rfl ?_
      try dsimp only [putL, setL, evL, getL]
      refine HL_cons rfl ?_
      refine o_bin rfl rfl rfl ?_
      try dsimp only [putL, setL, evL, getL]
      refine HL_cons rfl ?_
      refine o_assign ?_
      try dsimp only [putL, setL, evL, getL]
      refine HL_nil ?_
      refine hK376 _ _ ?_
      refine HT_region ?_
      refine HL_cons rfl ?_
      refine o_bin rfl rfl rfl ?_
      try dsimp only [putL, setL, evL, getL]
      refine HL_cons rfl ?_
      refine o_move ?_
      try dsimp only [putL, setL, evL, getL]
      refine HL_nil ?_
      exact hK341 _ _ ⟨kf, Nat.lt_succ_self kf, IntKind.i64.wrap (x272 + (IntKind.i64.wrap (1 - u406))), IntKind.i64.wrap (x273 + 1), H, rfl, hH.sel [] (by decide)⟩
   ·replace H := iteF hb344 H
    refine HT_false (congrArg Value.bool hb344) ?_
    refine HT_exit ?_
    exact hK5 _ _ ⟨x272, H, rfl, hH⟩
 ·rintro l' s407 ⟨x206, H, hl, hH⟩
  generalize getL l' 2 = j2, getL l' 5 = j5, getL l' 8 = j8, getL l' 9 = j9, getL l' 10 = j10, getL l' 11 = j11, getL l' 12 = j12, getL l' 13 = j13, getL l' 14 = j14, getL l' 15 = j15, getL l' 16 = j16, getL l' 17 = j17, getL l' 18 = j18, getL l' 19 = j19, getL l' 20 = j20, getL l' 21 = j21, getL l' 22 = j22, getL l' 23 = j23, getL l' 24 = j24, getL l' 25 = j25, getL l' 26 = j26, getL l' 27 = j27, getL l' 28 = j28 at hl
  subst hl
  replace H := hG5 _ H
  try dsimp only at H
  refine hK3 _ _ ?_
  refine HT_seq_k ?_
  intro K408 hK408
  refine HT_region ?_
  refine HL_cons rfl ?_
  refine o_move ?_
  try dsimp only [putL, setL, evL, getL]
  refine HL_cons rfl ?_
  refine o_bin rfl rfl rfl ?_
  try dsimp only [putL, setL, evL, getL]
  refine HL_cons rfl ?_
  refine o_assign ?_
  try dsimp only [putL, setL, evL, getL]
  refine HL_nil ?_
  refine hK408 _ _ ?_
  refine HT_ret ?_
  exact hQr _ _ [.bool (x206 == 1)] ⟨rfl, trivial⟩ (retH (fun r => spec_l5Good.post sb s F0 r _ _) (show some _ = some r from H) ⟨rfl, hH⟩)
def spec_GoodRe.f (p0 : List ((Int) × (List (Int)))) : Option Bool := if (decide ((p0.length : Int) ≤ 40)) = true then ((spec_l5Good.f p0).bind fun u4 => some u4) else (some false)
def spec_GoodRe.post (sb s : St) (F0 : Fp) (r : Bool) : Value → St → Prop := fun v s' => v = .bool r ∧ Hp sb s F0 s' []
set_option maxRecDepth 100000 in
set_option maxHeartbeats 4000000 in
theorem spec_GoodRe.ok (sb s : St) (F0 : Fp) (A0p : Option Addr) (c0p : Nat) (p0 : List ((Int) × (List (Int)))) (HRp0 : Rd KS139 sb A0p c0p p0) (hH : Hp sb s F0 s []) (r : Bool) (H : spec_GoodRe.f p0 = some r) : GCall Try.prog 189 #[.slice A0p p0.length c0p] s (spec_GoodRe.post sb s F0 r) := by
 refine GCall_ofk [.tmp 2] [.slice A0p p0.length c0p, undef, undef, undef, undef, undef, undef, undef, undef, undef] Try.func189 rfl rfl rfl ?_
 intro w Q hQr hQn hQp
 replace H := topE H
 unfold spec_GoodRe.f at H
 refine HT_seq_k ?_
 intro K1 hK1
 refine HT_region ?_
 refine HL_cons rfl ?_
 refine o_assign ?_
 try dsimp only [putL, setL, evL, getL]
 refine HL_nil ?_
 refine hK1 _ _ ?_
 refine HT_seq_k ?_
 intro K2 hK2
 refine HT_region ?_
 refine HL_cons rfl ?_
 refine o_move ?_
 try dsimp only [putL, setL, evL, getL]
 refine HL_cons rfl ?_
 refine o_len rfl Try.underlying57 ?_
 try dsimp only [putL, setL, evL, getL]
 refine HL_cons rfl ?_
 refine o_bin rfl rfl rfl ?_
 try dsimp only [putL, setL, evL, getL]
 refine HL_cons rfl ?_
 refine o_move ?_
 try dsimp only [putL, setL, evL, getL]
 rcases Bool.eq_false_or_eq_true (decide ((p0.length : Int) ≤ 40)) with hb3 | hb3
 ·replace H := iteT hb3 H
  refine HL_want ?_ ?_
  ·exact wantT (j := 3) (b := true) (t := 6) (c := decide ((p0.length : Int) ≤ 40)) rfl rfl rfl rfl hb3
  refine o_move ?_
  try dsimp only [putL, setL, evL, getL]
  replace H := headE H
  obtain ⟨u4, hu4, H⟩ := H
  refine HL_want ?_ ?_
  ·exact wantT (j := 3) (b := true) (t := 6) (c := decide ((p0.length : Int) ≤ 40)) rfl rfl rfl rfl hb3
  refine o_call (args := #[.slice A0p p0.length c0p]) Try.func220 rfl rfl rfl (spec_l5Good.ok sb s no A0p c0p p0 HRp0 (Hp.own hH.bs) _ hu4) ?_
  rintro _ s4 ⟨rfl, hD⟩
  replace hH := hH.back0 hD (Up.refl _ _ _)
  clear hD
  dsimp only [addC, setC, rmC, selC, getC] at hH
  try dsimp only [putL, setL, evL, getL]
  refine HL_cons rfl ?_
  refine o_pickT rfl hb3 ?_
  try dsimp only [putL, setL, evL, getL]
  refine HL_cons rfl ?_
  refine o_assign ?_
  try dsimp only [putL, setL, evL, getL]
  refine HL_nil ?_
  refine hK2 _ _ ?_
  refine HT_ret ?_
  exact hQr _ _ [.bool u4] ⟨rfl, trivial⟩ (retH (fun r => spec_GoodRe.post sb s F0 r _ _) (show some _ = some r from H) ⟨rfl, hH⟩)
 ·replace H := iteF hb3 H
  refine HL_skip ?_ ?_
  ·exact wantF (j := 3) (b := true) (t := 6) (c := decide ((p0.length : Int) ≤ 40)) rfl rfl rfl rfl hb3
  try dsimp only [putL, setL, evL, getL]
  refine HL_skip ?_ ?_
  ·exact wantF (j := 3) (b := true) (t := 6) (c := decide ((p0.length : Int) ≤ 40)) rfl rfl rfl rfl hb3
  try dsimp only [putL, setL, evL, getL]
  refine HL_cons rfl ?_
  refine o_pickF rfl hb3 ?_
  try dsimp only [putL, setL, evL, getL]
  refine HL_cons rfl ?_
  refine o_assign ?_
  try dsimp only [putL, setL, evL, getL]
  refine HL_nil ?_
  refine hK2 _ _ ?_
  refine HT_ret ?_
  exact hQr _ _ [.bool false] ⟨rfl, trivial⟩ (retH (fun r => spec_GoodRe.post sb s F0 r _ _) (show some _ = some r from H) ⟨rfl, hH⟩)
def spec_IsPlain.l1 (p0 : List ((Int) × (List (Int)))) : Nat → Int → Option (Lo Unit (Bool × Bool))
 | 0, _ => none
 | kf + 1, x129 => if (decide (x129 < (p0.length : Int))) = true then ((rd? p0 x129).bind fun u179 => (if (u179.1 == 5) = true then (some true) else (some (u179.1 == 7))).bind fun (o : Bool) => match o with | x185 => (if x185 = true then ((some (false, true)).bind fun z => some (Lo.ret z)) else (spec_IsPlain.l1 p0 kf (IntKind.i64.wrap (x129 + 1))))) else (some (Lo.go ()))
def spec_IsPlain.f (p0 : List ((Int) × (List (Int)))) : Option (Bool × Bool) := (spec_GoodRe.f p0).bind fun u4 => if (!u4) = true then (some (false, false)) else ((spec_IsPlain.l1 p0 ((((p0.length : Int)) - (0)).toNat + 2) 0).bind fun (o : Lo Unit (Bool × Bool)) => match o with | .go () => (some (true, true)) | .ret z => some z)
def spec_IsPlain.post (sb s : St) (F0 : Fp) (r : Bool × Bool) : Value → St → Prop := fun v s' => v = .tuple #[.bool r.1, .bool r.2] ∧ Hp sb s F0 s' []
set_option maxRecDepth 100000 in
set_option maxHeartbeats 4000000 in
theorem spec_IsPlain.ok (sb s : St) (F0 : Fp) (A0p : Option Addr) (c0p : Nat) (p0 : List ((Int) × (List (Int)))) (HRp0 : Rd KS139 sb A0p c0p p0) (hH : Hp sb s F0 s []) (r : Bool × Bool) (H : spec_IsPlain.f p0 = some r) : GCall Try.prog 128 #[.slice A0p p0.length c0p] s (spec_IsPlain.post sb s F0 r) := by
 refine GCall_ofk [.tmp 2, .tmp 3] [.slice A0p p0.length c0p, undef, undef, undef, undef, undef, undef, undef, undef, undef, undef, undef, undef, undef, undef, undef, undef, undef, undef, undef, undef, undef, undef, undef] Try.func128 rfl rfl rfl ?_
 intro w Q hQr hQn hQp
 replace H := topE H
 unfold spec_IsPlain.f at H
 refine HT_seq_k ?_
 intro K1 hK1
 refine HT_region ?_
 refine HL_cons rfl ?_
 refine o_assign ?_
 try dsimp only [putL, setL, evL, getL]
 refine HL_cons rfl ?_
 refine o_assign ?_
 try dsimp only [putL, setL, evL, getL]
 refine HL_nil ?_
 refine hK1 _ _ ?_
 refine HT_seq_k ?_
 intro K2 hK2
 refine HT_seq_k ?_
 intro K3 hK3
 refine HT_region ?_
 refine HL_cons rfl ?_
 refine o_move ?_
 try dsimp only [putL, setL, evL, getL]
 replace H := headE H
 obtain ⟨u4, hu4, H⟩ := H
 refine HL_cons rfl ?_
 refine o_call (args := #[.slice A0p p0.length c0p]) Try.func189 rfl rfl rfl (spec_GoodRe.ok sb s no A0p c0p p0 HRp0 (Hp.own hH.bs) _ hu4) ?_
 rintro _ s4 ⟨rfl, hD⟩
 replace hH := hH.back0 hD (Up.refl _ _ _)
 clear hD
 dsimp only [addC, setC, rmC, selC, getC] at hH
 try dsimp only [putL, setL, evL, getL]
 refine HL_cons rfl ?_
 refine o_not rfl ?_
 try dsimp only [putL, setL, evL, getL]
 refine HL_nil ?_
 refine hK3 _ _ ?_
 rcases Bool.eq_false_or_eq_true (!u4) with hb5 | hb5
 ·replace H := iteT hb5 H
  refine HT_true (congrArg Value.bool hb5) ?_
  refine HT_seq_k ?_
  intro K6 hK6
  refine HT_region ?_
  refine HL_cons rfl ?_
  refine o_assign ?_
  try dsimp only [putL, setL, evL, getL]
  refine HL_cons rfl ?_
  refine o_assign ?_
  try dsimp only [putL, setL, evL, getL]
  refine HL_nil ?_
  refine hK6 _ _ ?_
  refine HT_ret ?_
  exact hQr _ _ [.bool false, .bool false] ⟨rfl, rfl, trivial⟩ (retH (fun r => spec_IsPlain.post sb s F0 r _ _) (show some _ = some r from H) ⟨rfl, hH⟩)
 ·replace H := iteF hb5 H
  refine HT_false (congrArg Value.bool hb5) ?_
  refine HT_skip ?_
  refine hK2 _ _ ?_
  refine HT_seq_k ?_
  intro K7 hK7
  refine HT_seq_k ?_
  intro K8 hK8
  refine HT_region ?_
  refine HL_cons rfl ?_
  refine o_move ?_
  try dsimp only [putL, setL, evL, getL]
  refine HL_cons rfl ?_
  refine o_len rfl Try.underlying57 ?_
  try dsimp only [putL, setL, evL, getL]
  refine HL_cons rfl ?_
  refine o_move ?_
  try dsimp only [putL, setL, evL, getL]
  refine HL_nil ?_
  refine hK8 _ _ ?_
  refine joinH H fun G9 hG9 H => ?_
  refine HT_toK (fun l' s' => G9 (.go ()) = some r ∧ l' = [.slice A0p p0.length c0p, undef, getL l' 2, getL l' 3, undef, getL l' 5, .slice A0p p0.length c0p, .bool u4, .bool (!u4), .slice A0p p0.length c0p, .int .i64 (p0.length : Int), getL l' 11, getL l' 12, getL l' 13, getL l' 14, getL l' 15, getL l' 16, getL l' 17, getL l' 18, getL l' 19, getL l' 20, getL l' 21, getL l' 22, getL l' 23] ∧ Hp sb s F0 s' []) ?_ ?_
  ·intro K9 hK9
   refine HT_block ?_
   refine HT_loopK (fun kf l' s' => ∃ (x129 : Int), (spec_IsPlain.l1 p0 kf x129).bind G9 = some r ∧ l' = [.slice A0p p0.length c0p, undef, getL l' 2, getL l' 3, undef, getL l' 5, .slice A0p p0.length c0p, .bool u4, .bool (!u4), .slice A0p p0.length c0p, .int .i64 (p0.length : Int), .int .i64 x129, getL l' 12, getL l' 13, getL l' 14, getL l' 15, getL l' 16, getL l' 17, getL l' 18, getL l' 19, getL l' 20, getL l' 21, getL l' 22, getL l' 23] ∧ Hp sb s F0 s' []) ((((p0.length : Int)) - (0)).toNat + 2) ⟨0, H, rfl, hH⟩ ?_
   rintro kf l' s160 ⟨x129, H, hl, hH⟩ K160 hK160
   generalize getL l' 2 = j2, getL l' 3 = j3, getL l' 5 = j5, getL l' 12 = j12, getL l' 13 = j13, getL l' 14 = j14, getL l' 15 = j15, getL l' 16 = j16, getL l' 17 = j17, getL l' 18 = j18, getL l' 19 = j19, getL l' 20 = j20, getL l' 21 = j21, getL l' 22 = j22, getL l' 23 = j23 at hl
   subst hl
   cases kf with
   | zero => simp [spec_IsPlain.l1] at H
   | succ kf =>
    rw [spec_IsPlain.l1] at H
    refine HT_seq_k ?_
    intro K161 hK161
    refine HT_region ?_
    refine HL_cons rfl ?_
    refine o_bin rfl rfl rfl ?_
    try dsimp only [putL, setL, evL, getL]
    refine HL_nil ?_
    refine hK161 _ _ ?_
    refine HT_seq_k ?_
    intro K162 hK162
    rcases Bool.eq_false_or_eq_true (decide (x129 < (p0.length : Int))) with hb163 | hb163
    ·replace H := iteT hb163 H
     refine HT_true (congrArg Value.bool hb163) ?_
     refine HT_skip ?_
     refine hK162 _ _ ?_
     refine HT_seq_k ?_
     intro K177 hK177
     refine HT_block ?_
     refine HT_seq_k ?_
     intro K178 hK178
     refine HT_region ?_
     replace H := headE H
     obtain ⟨u179, hu179, H⟩ := H
     obtain ⟨b179, o179, cs179, hr179, hh179, hel179⟩ := Rd.elb HRp0 hu179
     obtain ⟨_, _, rfl, rfl, ⟨A180, c180, rfl, D180⟩⟩ := hr179
     refine HL_cons rfl ?_
     refine hel179 s160 rfl rfl Try.underlying57 tI139 ?_
     try dsimp only [putL, setL, evL, getL]
     refine HL_cons rfl ?_
     refine o_loads' [.int .i64 u179.1, .slice A180 u179.2.length c180] rfl Try.underlying139 rfl tI139 rfl (fun j v hj => (hh179 hH.bs.mono) j v hj) ?_
     try dsimp only [putL, setL, evL, getL]
     refine HL_cons rfl ?_
     refine o_allocH hH tI139 ?_
     intro b181 s181 hH' hG
     replace hH : Hp sb s F0 s181 [Ck.ov b181 [.int .i64 0, .slice none 0 0] 139] := hH'
     clear hH' hG
     try dsimp only [putL, setL, evL, getL]
     refine HL_cons rfl ?_
     refine o_stvH (vs := [.int .i64 u179.1, .slice A180 u179.2.length c180]) (us' := [.int .i64 u179.1, .slice A180 u179.2.length c180]) hH 0 rfl rfl rfl rfl rfl tI139 rfl (List.cons_ne_nil _ _) rfl rfl rfl ?_
     intro s182 hH'
     replace hH : Hp sb s F0 s182 [Ck.ov b181 [.int .i64 u179.1, .slice A180 u179.2.length c180] 139] := hH'
     clear hH'
     try dsimp only [putL, setL, evL, getL]
     refine HL_nil ?_
     refine hK178 _ _ ?_
     refine joinH H fun G183 hG183 H => ?_
     refine HT_joinK (fun l' s' => ∃ (x185 : Bool), G183 x185 = some r ∧ l' = [.slice A0p p0.length c0p, undef, j2, j3, undef, .pointer (some ⟨b181, 0, none⟩), .slice A0p p0.length c0p, .bool u4, .bool (!u4), .slice A0p p0.length c0p, .int .i64 (p0.length : Int), .int .i64 x129, .bool (decide (x129 < (p0.length : Int))), .pointer (some ⟨b179, o179, none⟩), .agg #[.int .i64 u179.1, .slice A180 u179.2.length c180], getL l' 15, getL l' 16, getL l' 17, getL l' 18, getL l' 19, getL l' 20, getL l' 21, .bool x185, j23] ∧ Hp sb s F0 s' []) ?_ ?_
     ·intro K183 hK183
      refine HT_region ?_
      refine HL_cons rfl ?_
      refine o_faddr' (ft := 3) (off := 0) rfl Try.underlying139 rfl tI3 (by decide) ?_
      try dsimp only [putL, setL, evL, getL]
      refine HL_cons rfl ?_
      refine o_load' rfl Try.underlying3 rfl (hH.hasv 0 rfl rfl) ?_
      try dsimp only [putL, setL, evL, getL]
      refine HL_cons rfl ?_
      refine o_bin rfl rfl rfl ?_
      try dsimp only [putL, setL, evL, getL]
      refine HL_cons rfl ?_
      refine o_move ?_
      try dsimp only [putL, setL, evL, getL]
      rcases Bool.eq_false_or_eq_true (u179.1 == 5) with hb186 | hb186
      ·replace H := iteT hb186 H
       refine HL_skip ?_ ?_
       ·exact wantF (j := 3) (b := false) (t := 18) (c := u179.1 == 5) rfl rfl rfl rfl hb186
       try dsimp only [putL, setL, evL, getL]
       refine HL_skip ?_ ?_
       ·exact wantF (j := 3) (b := false) (t := 18) (c := u179.1 == 5) rfl rfl rfl rfl hb186
       try dsimp only [putL, setL, evL, getL]
       refine HL_skip ?_ ?_
       ·exact wantF (j := 3) (b := false) (t := 18) (c := u179.1 == 5) rfl rfl rfl rfl hb186
       try dsimp only [putL, setL, evL, getL]
       refine HL_cons rfl ?_
       refine o_pickT rfl hb186 ?_
       try dsimp only [putL, setL, evL, getL]
       refine HL_nil ?_
       exact hK183 _ _ ⟨true, H, rfl, hH.sel [] (by decide)⟩
      ·replace H := iteF hb186 H
       refine HL_want ?_ ?_
       ·exact wantT (j := 3) (b := false) (t := 18) (c := u179.1 == 5) rfl rfl rfl rfl hb186
       refine o_faddr' (ft := 3) (off := 0) rfl Try.underlying139 rfl tI3 (by decide) ?_
       try dsimp only [putL, setL, evL, getL]
       refine HL_want ?_ ?_
       ·exact wantT (j := 3) (b := false) (t := 18) (c := u179.1 == 5) rfl rfl rfl rfl hb186
       refine o_load' rfl Try.underlying3 rfl (hH.hasv 0 rfl rfl) ?_
       try dsimp only [putL, setL, evL, getL]
       refine HL_want ?_ ?_
       ·exact wantT (j := 3) (b := false) (t := 18) (c := u179.1 == 5) rfl rfl rfl rfl hb186
       refine o_bin rfl rfl rfl ?_
       try dsimp only [putL, setL, evL, getL]
       refine HL_cons rfl ?_
       refine o_pickF rfl hb186 ?_
       try dsimp only [putL, setL, evL, getL]
       refine HL_nil ?_
       exact hK183 _ _ ⟨u179.1 == 7, H, rfl, hH.sel [] (by decide)⟩
     ·rintro l' s187 ⟨x185, H, hl, hH⟩
      generalize getL l' 15 = j15, getL l' 16 = j16, getL l' 17 = j17, getL l' 18 = j18, getL l' 19 = j19, getL l' 20 = j20, getL l' 21 = j21 at hl
      subst hl
      replace H := hG183 _ H
      try dsimp only at H
      rcases Bool.eq_false_or_eq_true x185 with hb188 | hb188
      ·replace H := iteT hb188 H
       refine HT_true (congrArg Value.bool hb188) ?_
       refine HT_seq_k ?_
       intro K189 hK189
       refine HT_region ?_
       refine HL_cons rfl ?_
       refine o_assign ?_
       try dsimp only [putL, setL, evL, getL]
       refine HL_cons rfl ?_
       refine o_assign ?_
       try dsimp only [putL, setL, evL, getL]
       refine HL_nil ?_
       refine hK189 _ _ ?_
       refine HT_ret ?_
       replace H := escH (fun z hz => hG9 _ hz) H
       exact hQr _ _ [.bool false, .bool true] ⟨rfl, rfl, trivial⟩ (retH (fun r => spec_IsPlain.post sb s F0 r _ _) (show some _ = some r from H) ⟨rfl, hH⟩)
      ·replace H := iteF hb188 H
       refine HT_false (congrArg Value.bool hb188) ?_
       refine HT_skip ?_
       refine hK177 _ _ ?_
       refine HT_region ?_
       refine HL_cons rfl ?_
       refine o_bin rfl rfl rfl ?_
       try dsimp only [putL, setL, evL, getL]
       refine HL_cons rfl ?_
       refine o_move ?_
       try dsimp only [putL, setL, evL, getL]
       refine HL_nil ?_
       exact hK160 _ _ ⟨kf, Nat.lt_succ_self kf, IntKind.i64.wrap (x129 + 1), H, rfl, hH⟩
    ·replace H := iteF hb163 H
     refine HT_false (congrArg Value.bool hb163) ?_
     refine HT_exit ?_
     exact hK9 _ _ ⟨H, rfl, hH⟩
  ·rintro l' s190 ⟨H, hl, hH⟩
   generalize getL l' 2 = j2, getL l' 3 = j3, getL l' 5 = j5, getL l' 11 = j11, getL l' 12 = j12, getL l' 13 = j13, getL l' 14 = j14, getL l' 15 = j15, getL l' 16 = j16, getL l' 17 = j17, getL l' 18 = j18, getL l' 19 = j19, getL l' 20 = j20, getL l' 21 = j21, getL l' 22 = j22, getL l' 23 = j23 at hl
   subst hl
   replace H := hG9 _ H
   try dsimp only at H
   refine hK7 _ _ ?_
   refine HT_seq_k ?_
   intro K191 hK191
   refine HT_region ?_
   refine HL_cons rfl ?_
   refine o_assign ?_
   try dsimp only [putL, setL, evL, getL]
   refine HL_cons rfl ?_
   refine o_assign ?_
   try dsimp only [putL, setL, evL, getL]
   refine HL_nil ?_
   refine hK191 _ _ ?_
   refine HT_ret ?_
   exact hQr _ _ [.bool true, .bool true] ⟨rfl, rfl, trivial⟩ (retH (fun r => spec_IsPlain.post sb s F0 r _ _) (show some _ = some r from H) ⟨rfl, hH⟩)
def spec_l14Asked.f (p0 : List ((Int) × (List (Int)))) (p1 : List (Int)) : Option Bool := (spec_IsPlain.f p0).bind fun u3 => if u3.2 = true then (if u3.1 = true then ((spec_l1AllRunes.f p1).bind fun u7 => if u7 = true then (some (decide ((p1.length : Int) ≤ 40))) else (some false)) else (some false)) else (some false)
def spec_l14Asked.post (sb s : St) (F0 : Fp) (r : Bool) : Value → St → Prop := fun v s' => v = .bool r ∧ Hp sb s F0 s' []
set_option maxRecDepth 100000 in
set_option maxHeartbeats 4000000 in
theorem spec_l14Asked.ok (sb s : St) (F0 : Fp) (A0p : Option Addr) (c0p : Nat) (p0 : List ((Int) × (List (Int)))) (A1p : Option Addr) (c1p : Nat) (p1 : List (Int)) (HRp0 : Rd KS139 sb A0p c0p p0) (HRp1 : Rd KI sb A1p c1p p1) (hH : Hp sb s F0 s []) (r : Bool) (H : spec_l14Asked.f p0 p1 = some r) : GCall Try.prog 150 #[.slice A0p p0.length c0p, .slice A1p p1.length c1p] s (spec_l14Asked.post sb s F0 r) := by
 refine GCall_ofk [.tmp 4] [.slice A0p p0.length c0p, .slice A1p p1.length c1p, undef, undef, undef, undef, undef, undef, undef, undef, undef, undef, undef, undef, undef, undef, undef, undef, undef, undef, undef, undef, undef, undef, undef] Try.func150 rfl rfl rfl ?_
 intro w Q hQr hQn hQp
 replace H := topE H
 unfold spec_l14Asked.f at H
 refine HT_seq_k ?_
 intro K1 hK1
 refine HT_region ?_
 refine HL_cons rfl ?_
 refine o_assign ?_
 try dsimp only [putL, setL, evL, getL]
 refine HL_nil ?_
 refine hK1 _ _ ?_
 refine HT_seq_k ?_
 intro K2 hK2
 refine HT_region ?_
 refine HL_cons rfl ?_
 refine o_move ?_
 try dsimp only [putL, setL, evL, getL]
 replace H := headE H
 obtain ⟨u3, hu3, H⟩ := H
 refine HL_cons rfl ?_
 refine o_call (args := #[.slice A0p p0.length c0p]) Try.func128 rfl rfl rfl (spec_IsPlain.ok sb s no A0p c0p p0 HRp0 (Hp.own hH.bs) _ hu3) ?_
 rintro _ s3 ⟨rfl, hD⟩
 replace hH := hH.back0 hD (Up.refl _ _ _)
 clear hD
 dsimp only [addC, setC, rmC, selC, getC] at hH
 try dsimp only [putL, setL, evL, getL]
 refine HL_cons rfl ?_
 refine o_move ?_
 try dsimp only [putL, setL, evL, getL]
 refine HL_cons rfl ?_
 refine o_extract rfl rfl ?_
 try dsimp only [putL, setL, evL, getL]
 refine HL_cons rfl ?_
 refine o_extract rfl rfl ?_
 try dsimp only [putL, setL, evL, getL]
 refine HL_cons rfl ?_
 refine o_assign ?_
 try dsimp only [putL, setL, evL, getL]
 refine HL_cons rfl ?_
 refine o_assign ?_
 try dsimp only [putL, setL, evL, getL]
 refine HL_nil ?_
 refine hK2 _ _ ?_
 refine HT_seq_k ?_
 intro K4 hK4
 refine HT_region ?_
 refine HL_cons rfl ?_
 refine o_move ?_
 try dsimp only [putL, setL, evL, getL]
 refine HL_cons rfl ?_
 refine o_move ?_
 try dsimp only [putL, setL, evL, getL]
 rcases Bool.eq_false_or_eq_true u3.2 with hb5 | hb5
 ·replace H := iteT hb5 H
  refine HL_want ?_ ?_
  ·exact wantT (j := 1) (b := true) (t := 13) (c := u3.2) rfl rfl rfl rfl hb5
  refine o_move ?_
  try dsimp only [putL, setL, evL, getL]
  refine HL_cons rfl ?_
  refine o_pickT rfl hb5 ?_
  try dsimp only [putL, setL, evL, getL]
  refine HL_cons rfl ?_
  refine o_move ?_
  try dsimp only [putL, setL, evL, getL]
  rcases Bool.eq_false_or_eq_true u3.1 with hb6 | hb6
  ·replace H := iteT hb6 H
   refine HL_want ?_ ?_
   ·exact wantT (j := 4) (b := true) (t := 16) (c := u3.1) rfl rfl rfl rfl hb6
   refine o_move ?_
   try dsimp only [putL, setL, evL, getL]
   replace H := headE H
   obtain ⟨u7, hu7, H⟩ := H
   refine HL_want ?_ ?_
   ·exact wantT (j := 4) (b := true) (t := 16) (c := u3.1) rfl rfl rfl rfl hb6
   refine o_call (args := #[.slice A1p p1.length c1p]) Try.func119 rfl rfl rfl (spec_l1AllRunes.ok sb s3 no A1p c1p p1 HRp1 (Hp.own hH.bs) _ hu7) ?_
   rintro _ s7 ⟨rfl, hD⟩
   replace hH := hH.back0 hD (Up.refl _ _ _)
   clear hD
   dsimp only [addC, setC, rmC, selC, getC] at hH
   try dsimp only [putL, setL, evL, getL]
   refine HL_cons rfl ?_
   refine o_pickT rfl hb6 ?_
   try dsimp only [putL, setL, evL, getL]
   refine HL_cons rfl ?_
   refine o_move ?_
   try dsimp only [putL, setL, evL, getL]
   rcases Bool.eq_false_or_eq_true u7 with hb8 | hb8
   ·replace H := iteT hb8 H
    refine HL_want ?_ ?_
    ·exact wantT (j := 8) (b := true) (t := 20) (c := u7) rfl rfl rfl rfl hb8
    refine o_move ?_
    try dsimp only [putL, setL, evL, getL]
    refine HL_want ?_ ?_
    ·exact wantT (j := 8) (b := true) (t := 20) (c := u7) rfl rfl rfl rfl hb8
    refine o_len rfl Try.underlying24 ?_
    try dsimp only [putL, setL, evL, getL]
    refine HL_want ?_ ?_
    ·exact wantT (j := 8) (b := true) (t := 20) (c := u7) rfl rfl rfl rfl hb8
    refine o_bin rfl rfl rfl ?_
    try dsimp only [putL, setL, evL, getL]
    refine HL_cons rfl ?_
    refine o_pickT rfl hb8 ?_
    try dsimp only [putL, setL, evL, getL]
    refine HL_cons rfl ?_
    refine o_assign ?_
    try dsimp only [putL, setL, evL, getL]
    refine HL_nil ?_
    refine hK4 _ _ ?_
    refine HT_ret ?_
    exact hQr _ _ [.bool (decide ((p1.length : Int) ≤ 40))] ⟨rfl, trivial⟩ (retH (fun r => spec_l14Asked.post sb s F0 r _ _) (show some _ = some r from H) ⟨rfl, hH⟩)
   ·replace H := iteF hb8 H
    refine HL_skip ?_ ?_
    ·exact wantF (j := 8) (b := true) (t := 20) (c := u7) rfl rfl rfl rfl hb8
    try dsimp only [putL, setL, evL, getL]
    refine HL_skip ?_ ?_
    ·exact wantF (j := 8) (b := true) (t := 20) (c := u7) rfl rfl rfl rfl hb8
    try dsimp only [putL, setL, evL, getL]
    refine HL_skip ?_ ?_
    ·exact wantF (j := 8) (b := true) (t := 20) (c := u7) rfl rfl rfl rfl hb8
    try dsimp only [putL, setL, evL, getL]
    refine HL_cons rfl ?_
    refine o_pickF rfl hb8 ?_
    try dsimp only [putL, setL, evL, getL]
    refine HL_cons rfl ?_
    refine o_assign ?_
    try dsimp only [putL, setL, evL, getL]
    refine HL_nil ?_
    refine hK4 _ _ ?_
    refine HT_ret ?_
    exact hQr _ _ [.bool false] ⟨rfl, trivial⟩ (retH (fun r => spec_l14Asked.post sb s F0 r _ _) (show some _ = some r from H) ⟨rfl, hH⟩)
  ·replace H := iteF hb6 H
   refine HL_skip ?_ ?_
   ·exact wantF (j := 4) (b := true) (t := 16) (c := u3.1) rfl rfl rfl rfl hb6
   try dsimp only [putL, setL, evL, getL]
   refine HL_skip ?_ ?_
   ·exact wantF (j := 4) (b := true) (t := 16) (c := u3.1) rfl rfl rfl rfl hb6
   try dsimp only [putL, setL, evL, getL]
   refine HL_cons rfl ?_
   refine o_pickF rfl hb6 ?_
   try dsimp only [putL, setL, evL, getL]
   refine HL_cons rfl ?_
   refine o_move ?_
   try dsimp only [putL, setL, evL, getL]
   refine HL_skip ?_ ?_
   ·exact wantF (j := 8) (b := true) (t := 20) (c := false) rfl rfl rfl rfl rfl
   try dsimp only [putL, setL, evL, getL]
   refine HL_skip ?_ ?_
   ·exact wantF (j := 8) (b := true) (t := 20) (c := false) rfl rfl rfl rfl rfl
   try dsimp only [putL, setL, evL, getL]
   refine HL_skip ?_ ?_
   ·exact wantF (j := 8) (b := true) (t := 20) (c := false) rfl rfl rfl rfl rfl
   try dsimp only [putL, setL, evL, getL]
   refine HL_cons rfl ?_
   refine o_pickF rfl rfl ?_
   try dsimp only [putL, setL, evL, getL]
   refine HL_cons rfl ?_
   refine o_assign ?_
   try dsimp only [putL, setL, evL, getL]
   refine HL_nil ?_
   refine hK4 _ _ ?_
   refine HT_ret ?_
   exact hQr _ _ [.bool false] ⟨rfl, trivial⟩ (retH (fun r => spec_l14Asked.post sb s F0 r _ _) (show some _ = some r from H) ⟨rfl, hH⟩)
 ·replace H := iteF hb5 H
  refine HL_skip ?_ ?_
  ·exact wantF (j := 1) (b := true) (t := 13) (c := u3.2) rfl rfl rfl rfl hb5
  try dsimp only [putL, setL, evL, getL]
  refine HL_cons rfl ?_
  refine o_pickF rfl hb5 ?_
  try dsimp only [putL, setL, evL, getL]
  refine HL_cons rfl ?_
  refine o_move ?_
  try dsimp only [putL, setL, evL, getL]
  refine HL_skip ?_ ?_
  ·exact wantF (j := 4) (b := true) (t := 16) (c := false) rfl rfl rfl rfl rfl
  try dsimp only [putL, setL, evL, getL]
  refine HL_skip ?_ ?_
  ·exact wantF (j := 4) (b := true) (t := 16) (c := false) rfl rfl rfl rfl rfl
  try dsimp only [putL, setL, evL, getL]
  refine HL_cons rfl ?_
  refine o_pickF rfl rfl ?_
  try dsimp only [putL, setL, evL, getL]
  refine HL_cons rfl ?_
  refine o_move ?_
  try dsimp only [putL, setL, evL, getL]
  refine HL_skip ?_ ?_
  ·exact wantF (j := 8) (b := true) (t := 20) (c := false) rfl rfl rfl rfl rfl
  try dsimp only [putL, setL, evL, getL]
  refine HL_skip ?_ ?_
  ·exact wantF (j := 8) (b := true) (t := 20) (c := false) rfl rfl rfl rfl rfl
  try dsimp only [putL, setL, evL, getL]
  refine HL_skip ?_ ?_
  ·exact wantF (j := 8) (b := true) (t := 20) (c := false) rfl rfl rfl rfl rfl
  try dsimp only [putL, setL, evL, getL]
  refine HL_cons rfl ?_
  refine o_pickF rfl rfl ?_
  try dsimp only [putL, setL, evL, getL]
  refine HL_cons rfl ?_
  refine o_assign ?_
  try dsimp only [putL, setL, evL, getL]
  refine HL_nil ?_
  refine hK4 _ _ ?_
  refine HT_ret ?_
  exact hQr _ _ [.bool false] ⟨rfl, trivial⟩ (retH (fun r => spec_l14Asked.post sb s F0 r _ _) (show some _ = some r from H) ⟨rfl, hH⟩)
def spec_l4In.l1 (p0 : List (Int)) (p1 : Int) : Nat → Int → Option (Lo Unit Bool)
 | 0, _ => none
 | kf + 1, x48 => if (decide (x48 < (p0.length : Int))) = true then ((rd? p0 x48).bind fun u66 => (rd? p0 (IntKind.i64.wrap (x48 + 1))).bind fun u67 => (spec_l1In.f p1 u66 u67).bind fun u68 => if u68 = true then ((some true).bind fun z => some (Lo.ret z)) else (spec_l4In.l1 p0 p1 kf (IntKind.i64.wrap (x48 + 2)))) else (some (Lo.go ()))
def spec_l4In.f (p0 : List (Int)) (p1 : Int) : Option Bool := (spec_l4In.l1 p0 p1 ((((p0.length : Int)) - (0)).toNat + 2) 0).bind fun (o : Lo Unit Bool) => match o with | .go () => (some false) | .ret z => some z
def spec_l4In.post (sb s : St) (F0 : Fp) (r : Bool) : Value → St → Prop := fun v s' => v = .bool r ∧ Hp sb s F0 s' []
set_option maxRecDepth 100000 in
set_option maxHeartbeats 4000000 in
theorem spec_l4In.ok (sb s : St) (F0 : Fp) (A0p : Option Addr) (c0p : Nat) (p0 : List (Int)) (p1 : Int) (HRp0 : Rd KI sb A0p c0p p0) (hH : Hp sb s F0 s []) (r : Bool) (H : spec_l4In.f p0 p1 = some r) : GCall Try.prog 201 #[.slice A0p p0.length c0p, .int .i64 p1] s (spec_l4In.post sb s F0 r) := by
 refine GCall_ofk [.tmp 4] [.slice A0p p0.length c0p, .int .i64 p1, undef, undef, undef, undef, undef, undef, undef, undef, undef, undef, undef, undef, undef, undef, undef, undef, undef, undef, undef, undef, undef] Try.func201 rfl rfl rfl ?_
 intro w Q hQr hQn hQp
 replace H := topE H
 unfold spec_l4In.f at H
 refine HT_seq_k ?_
 intro K1 hK1
 refine HT_region ?_
 refine HL_cons rfl ?_
 refine o_assign ?_
 try dsimp only [putL, setL, evL, getL]
 refine HL_nil ?_
 refine hK1 _ _ ?_
 refine HT_seq_k ?_
 intro K2 hK2
 refine HT_seq_k ?_
 intro K3 hK3
 refine HT_region ?_
 refine HL_cons rfl ?_
 refine o_assign ?_
 try dsimp only [putL, setL, evL, getL]
 refine HL_nil ?_
 refine hK3 _ _ ?_
 refine joinH H fun G4 hG4 H => ?_
 refine HT_toK (fun l' s' => G4 (.go ()) = some r ∧ l' = [.slice A0p p0.length c0p, .int .i64 p1, undef, undef, getL l' 4, getL l' 5, getL l' 6, getL l' 7, getL l' 8, getL l' 9, getL l' 10, getL l' 11, getL l' 12, getL l' 13, getL l' 14, getL l' 15, getL l' 16, getL l' 17, getL l' 18, getL l' 19, getL l' 20, getL l' 21, getL l' 22] ∧ Hp sb s F0 s' []) ?_ ?_
 ·intro K4 hK4
  refine HT_block ?_
  refine HT_loopK (fun kf l' s' => ∃ (x48 : Int), (spec_l4In.l1 p0 p1 kf x48).bind G4 = some r ∧ l' = [.slice A0p p0.length c0p, .int .i64 p1, undef, undef, getL l' 4, .int .i64 x48, getL l' 6, getL l' 7, getL l' 8, getL l' 9, getL l' 10, getL l' 11, getL l' 12, getL l' 13, getL l' 14, getL l' 15, getL l' 16, getL l' 17, getL l' 18, getL l' 19, getL l' 20, getL l' 21, getL l' 22] ∧ Hp sb s F0 s' []) ((((p0.length : Int)) - (0)).toNat + 2) ⟨0, H, rfl, hH⟩ ?_
  rintro kf l' s60 ⟨x48, H, hl, hH⟩ K60 hK60
  generalize getL l' 4 = j4, getL l' 6 = j6, getL l' 7 = j7, getL l' 8 = j8, getL l' 9 = j9, getL l' 10 = j10, getL l' 11 = j11, getL l' 12 = j12, getL l' 13 = j13, getL l' 14 = j14, getL l' 15 = j15, getL l' 16 = j16, getL l' 17 = j17, getL l' 18 = j18, getL l' 19 = j19, getL l' 20 = j20, getL l' 21 = j21, getL l' 22 = j22 at hl
  subst hl
  cases kf with
  | zero => simp [spec_l4In.l1] at H
  | succ kf =>
   rw [spec_l4In.l1] at H
   refine HT_seq_k ?_
   intro K61 hK61
   refine HT_seq_k ?_
   intro K62 hK62
   refine HT_region ?_
   refine HL_cons rfl ?_
   refine o_move ?_
   try dsimp only [putL, setL, evL, getL]
   refine HL_cons rfl ?_
   refine o_move ?_
   try dsimp only [putL, setL, evL, getL]
   refine HL_cons rfl ?_
   refine o_len rfl Try.underlying24 ?_
   try dsimp only [putL, setL, evL, getL]
   refine HL_cons rfl ?_
   refine o_bin rfl rfl rfl ?_
   try dsimp only [putL, setL, evL, getL]
   refine HL_nil ?_
   refine hK62 _ _ ?_
   rcases Bool.eq_false_or_eq_true (decide (x48 < (p0.length : Int))) with hb63 | hb63
   ·replace H := iteT hb63 H
    refine HT_true (congrArg Value.bool hb63) ?_
    refine HT_skip ?_
    refine hK61 _ _ ?_
    refine HT_seq_k ?_
    intro K64 hK64
    refine HT_block ?_
    refine HT_seq_k ?_
    intro K65 hK65
    refine HX_draw hMix ?_
    refine HX_lim (R := fun _ => True) (k := 0) (fun s' => Gro s60 s') 12 ?_
    have hR := Gro.refl s60
    have hH0 := hH
    refine HK_readP 0 (v := .int .i64 p1) rfl (by kernel_rfl) (fun c l s h => hQp c l s h) rfl (fun s' K hK => ?_) rfl rfl (fun _ => hR) ?_
    ·refine o_move ?_
     exact hK
    try dsimp only [putL, setL, evL, getL]
    refine HK_readP 1 (v := .slice A0p p0.length c0p) rfl (by kernel_rfl) (fun c l s h => hQp c l s h) rfl (fun s' K hK => ?_) rfl rfl (fun _ => hR) ?_
    ·refine o_move ?_
     exact hK
    try dsimp only [putL, setL, evL, getL]
    refine HK_readP 2 (v := .int .i64 x48) rfl (by kernel_rfl) (fun c l s h => hQp c l s h) rfl (fun s' K hK => ?_) rfl rfl (fun _ => hR) ?_
    ·refine o_move ?_
     exact hK
    try dsimp only [putL, setL, evL, getL]
    replace H := headE H
    obtain ⟨u66, hu66, H⟩ := H
    obtain ⟨b66, o66, cs66, hr66, hh66, hel66⟩ := Rd.elb HRp0 hu66
    obtain rfl := hr66
    refine HK_readP 3 (v := .pointer (some ⟨b66, o66, none⟩)) rfl (by kernel_rfl) (fun c l s h => hQp c l s h) rfl (fun s' K hK => ?_) rfl rfl (fun _ => hR) ?_
    ·refine hel66 s' rfl rfl Try.underlying24 tI3 ?_
     exact hK
    try dsimp only [putL, setL, evL, getL]
    refine HK_read 4 (v := .int .i64 u66) rfl (by kernel_rfl) (fun c l s h => hQp c l s h) rfl (fun s' hR' K hK => ?_) rfl rfl hR ?_
    ·refine o_load' rfl Try.underlying3 rfl ((hh66 (hH0.bs.mono.trans hR'.mono)) 0 _ rfl) ?_
     exact hK
    try dsimp only [putL, setL, evL, getL]
    refine HK_readP 5 (v := .slice A0p p0.length c0p) rfl (by kernel_rfl) (fun c l s h => hQp c l s h) rfl (fun s' K hK => ?_) rfl rfl (fun _ => hR) ?_
    ·refine o_move ?_
     exact hK
    try dsimp only [putL, setL, evL, getL]
    refine HK_readP 6 (v := .int .i64 x48) rfl (by kernel_rfl) (fun c l s h => hQp c l s h) rfl (fun s' K hK => ?_) rfl rfl (fun _ => hR) ?_
    ·refine o_move ?_
     exact hK
    try dsimp only [putL, setL, evL, getL]
    refine HK_readP 7 (v := .int .i64 (IntKind.i64.wrap (x48 + 1))) rfl (by kernel_rfl) (fun c l s h => hQp c l s h) rfl (fun s' K hK => ?_) rfl rfl (fun _ => hR) ?_
    ·refine o_bin rfl rfl rfl ?_
     exact hK
    try dsimp only [putL, setL, evL, getL]
    replace H := headE H
    obtain ⟨u67, hu67, H⟩ := H
    obtain ⟨b67, o67, cs67, hr67, hh67, hel67⟩ := Rd.elb HRp0 hu67
    obtain rfl := hr67
    refine HK_readP 8 (v := .pointer (some ⟨b67, o67, none⟩)) rfl (by kernel_rfl) (fun c l s h => hQp c l s h) rfl (fun s' K hK => ?_) rfl rfl (fun _ => hR) ?_
    ·refine hel67 s' rfl rfl Try.underlying24 tI3 ?_
     exact hK
    try dsimp only [putL, setL, evL, getL]
    refine HK_read 9 (v := .int .i64 u67) rfl (by kernel_rfl) (fun c l s h => hQp c l s h) rfl (fun s' hR' K hK => ?_) rfl rfl hR ?_
    ·refine o_load' rfl Try.underlying3 rfl ((hh67 (hH0.bs.mono.trans hR'.mono)) 0 _ rfl) ?_
     exact hK
    try dsimp only [putL, setL, evL, getL]
    refine HK_more [10] (by kernel_rfl) rfl (fun _ => hR) ⟨⟨_, rfl, Or.inl ⟨rfl, ?_⟩⟩, trivial⟩
    replace H := headE H
    obtain ⟨u68, hu68, H⟩ := H
    skip
    refine o_call (args := #[.int .i64 p1, .int .i64 u66, .int .i64 u67]) Try.func108 rfl rfl rfl (spec_l1In.ok sb s60 no p1 u66 u67 (Hp.own hH.bs) _ hu68) ?_
    rintro _ s68 ⟨rfl, hD⟩
    replace hR := hR.trans hD.gro
    replace hH := hH.back0 hD (Up.refl _ _ _)
    clear hD
    dsimp only [addC, setC, rmC, selC, getC] at hH
    try dsimp only [putL, setL, evL, getL]
    refine HK_done (fun _ => hR) (by kernel_rfl) ?_
    refine hK65 _ _ ?_
    rcases Bool.eq_false_or_eq_true u68 with hb69 | hb69
    ·replace H := iteT hb69 H
     refine HT_true (congrArg Value.bool hb69) ?_
     refine HT_seq_k ?_
     intro K70 hK70
     refine HT_region ?_
     refine HL_cons rfl ?_
     refine o_assign ?_
     try dsimp only [putL, setL, evL, getL]
     refine HL_nil ?_
     refine hK70 _ _ ?_
     refine HT_ret ?_
     replace H := escH (fun z hz => hG4 _ hz) H
     exact hQr _ _ [.bool true] ⟨rfl, trivial⟩ (retH (fun r => spec_l4In.post sb s F0 r _ _) (show some _ = some r from H) ⟨rfl, hH⟩)
    ·replace H := iteF hb69 H
     refine HT_false (congrArg Value.bool hb69) ?_
     refine HT_skip ?_
     refine hK64 _ _ ?_
     refine HT_region ?_
     refine HL_cons rfl ?_
     refine o_move ?_
     try dsimp only [putL, setL, evL, getL]
     refine HL_cons rfl ?_
     refine o_bin rfl rfl rfl ?_
     try dsimp only [putL, setL, evL, getL]
     refine HL_cons rfl ?_
     refine o_assign ?_
     try dsimp only [putL, setL, evL, getL]
     refine HL_nil ?_
     exact hK60 _ _ ⟨kf, Nat.lt_succ_self kf, IntKind.i64.wrap (x48 + 2), H, rfl, hH⟩
   ·replace H := iteF hb63 H
    refine HT_false (congrArg Value.bool hb63) ?_
    refine HT_exit ?_
    exact hK4 _ _ ⟨H, rfl, hH⟩
 ·rintro l' s71 ⟨H, hl, hH⟩
  generalize getL l' 4 = j4, getL l' 5 = j5, getL l' 6 = j6, getL l' 7 = j7, getL l' 8 = j8, getL l' 9 = j9, getL l' 10 = j10, getL l' 11 = j11, getL l' 12 = j12, getL l' 13 = j13, getL l' 14 = j14, getL l' 15 = j15, getL l' 16 = j16, getL l' 17 = j17, getL l' 18 = j18, getL l' 19 = j19, getL l' 20 = j20, getL l' 21 = j21, getL l' 22 = j22 at hl
  subst hl
  replace H := hG4 _ H
  try dsimp only at H
  refine hK2 _ _ ?_
  refine HT_seq_k ?_
  intro K72 hK72
  refine HT_region ?_
  refine HL_cons rfl ?_
  refine o_assign ?_
  try dsimp only [putL, setL, evL, getL]
  refine HL_nil ?_
  refine hK72 _ _ ?_
  refine HT_ret ?_
  exact hQr _ _ [.bool false] ⟨rfl, trivial⟩ (retH (fun r => spec_l4In.post sb s F0 r _ _) (show some _ = some r from H) ⟨rfl, hH⟩)
def spec_l5First.l1 (p0 : List ((Int) × (List (Int)))) : Nat → Int → Int → Option Int
 | 0, _, _ => none
 | kf + 1, x39, x40 => if (decide (x39 > 0)) = true then ((rd? p0 x40).bind fun u55 => (spec_l5Arity.f u55.1).bind fun u57 => spec_l5First.l1 p0 kf (IntKind.i64.wrap (x39 + (IntKind.i64.wrap (u57 - 1)))) (IntKind.i64.wrap (x40 - 1))) else (some x40)
def spec_l5First.f (p0 : List ((Int) × (List (Int)))) (p1 : Int) : Option Int := (spec_l5First.l1 p0 (p0.length + 2) 1 (IntKind.i64.wrap (p1 - 1))).bind fun (o : Int) => match o with | x31 => (some x31)
def spec_l5First.post (sb s : St) (F0 : Fp) (r : Int) : Value → St → Prop := fun v s' => v = .int .i64 r ∧ Hp sb s F0 s' []
set_option maxRecDepth 100000 in
set_option maxHeartbeats 4000000 in
theorem spec_l5First.ok (sb s : St) (F0 : Fp) (A0p : Option Addr) (c0p : Nat) (p0 : List ((Int) × (List (Int)))) (p1 : Int) (HRp0 : Rd KS139 sb A0p c0p p0) (hH : Hp sb s F0 s []) (r : Int) (H : spec_l5First.f p0 p1 = some r) : GCall Try.prog 202 #[.slice A0p p0.length c0p, .int .i64 p1] s (spec_l5First.post sb s F0 r) := by
 refine GCall_ofk [.tmp 4] [.slice A0p p0.length c0p, .int .i64 p1, undef, undef, undef, undef, undef, undef, undef, undef, undef, undef, undef, undef, undef, undef, undef, undef, undef, undef, undef, undef, undef] Try.func202 rfl rfl rfl ?_
 intro w Q hQr hQn hQp
 replace H := topE H
 unfold spec_l5First.f at H
 refine HT_seq_k ?_
 intro K1 hK1
 refine HT_region ?_
 refine HL_cons rfl ?_
 refine o_assign ?_
 try dsimp only [putL, setL, evL, getL]
 refine HL_nil ?_
 refine hK1 _ _ ?_
 refine HT_seq_k ?_
 intro K2 hK2
 refine HT_region ?_
 refine HL_cons rfl ?_
 refine o_assign ?_
 try dsimp only [putL, setL, evL, getL]
 refine HL_nil ?_
 refine hK2 _ _ ?_
 refine HT_seq_k ?_
 intro K3 hK3
 refine HT_region ?_
 refine HL_cons rfl ?_
 refine o_move ?_
 try dsimp only [putL, setL, evL, getL]
 refine HL_cons rfl ?_
 refine o_bin rfl rfl rfl ?_
 try dsimp only [putL, setL, evL, getL]
 refine HL_cons rfl ?_
 refine o_assign ?_
 try dsimp only [putL, setL, evL, getL]
 refine HL_nil ?_
 refine hK3 _ _ ?_
 refine joinH H fun G4 hG4 H => ?_
 refine HT_joinK (fun l' s' => ∃ (x31 : Int), G4 x31 = some r ∧ l' = [.slice A0p p0.length c0p, .int .i64 p1, undef, undef, .int .i64 0, getL l' 5, .int .i64 x31, .int .i64 p1, .int .i64 (IntKind.i64.wrap (p1 - 1)), getL l' 9, getL l' 10, getL l' 11, getL l' 12, getL l' 13, getL l' 14, getL l' 15, getL l' 16, getL l' 17, getL l' 18, getL l' 19, getL l' 20, getL l' 21, undef] ∧ Hp sb s F0 s' []) ?_ ?_
 ·intro K4 hK4
  refine HT_block ?_
  refine HT_loopK (fun kf l' s' => ∃ (x39 : Int) (x40 : Int), (spec_l5First.l1 p0 kf x39 x40).bind G4 = some r ∧ l' = [.slice A0p p0.length c0p, .int .i64 p1, undef, undef, .int .i64 0, .int .i64 x39, .int .i64 x40, .int .i64 p1, .int .i64 (IntKind.i64.wrap (p1 - 1)), getL l' 9, getL l' 10, getL l' 11, getL l' 12, getL l' 13, getL l' 14, getL l' 15, getL l' 16, getL l' 17, getL l' 18, getL l' 19, getL l' 20, getL l' 21, undef] ∧ Hp sb s F0 s' []) (p0.length + 2) ⟨1, IntKind.i64.wrap (p1 - 1), H, rfl, hH⟩ ?_
  rintro kf l' s50 ⟨x39, x40, H, hl, hH⟩ K50 hK50
  generalize getL l' 9 = j9, getL l' 10 = j10, getL l' 11 = j11, getL l' 12 = j12, getL l' 13 = j13, getL l' 14 = j14, getL l' 15 = j15, getL l' 16 = j16, getL l' 17 = j17, getL l' 18 = j18, getL l' 19 = j19, getL l' 20 = j20, getL l' 21 = j21 at hl
  subst hl
  cases kf with
  | zero => simp [spec_l5First.l1] at H
  | succ kf =>
   rw [spec_l5First.l1] at H
   refine HT_seq_k ?_
   intro K51 hK51
   refine HT_seq_k ?_
   intro K52 hK52
   refine HT_region ?_
   refine HL_cons rfl ?_
   refine o_move ?_
   try dsimp only [putL, setL, evL, getL]
   refine HL_cons rfl ?_
   refine o_bin rfl rfl rfl ?_
   try dsimp only [putL, setL, evL, getL]
   refine HL_nil ?_
   refine hK52 _ _ ?_
   rcases Bool.eq_false_or_eq_true (decide (x39 > 0)) with hb53 | hb53
   ·replace H := iteT hb53 H
    refine HT_true (congrArg Value.bool hb53) ?_
    refine HT_skip ?_
    refine hK51 _ _ ?_
    refine HT_block ?_
    refine HT_seq_k ?_
    intro K54 hK54
    refine HT_region ?_
    refine HL_cons rfl ?_
    refine o_move ?_
    try dsimp only [putL, setL, evL, getL]
    refine HL_cons rfl ?_
    refine o_move ?_
    try dsimp only [putL, setL, evL, getL]
    refine HL_cons rfl ?_
    refine o_move ?_
    try dsimp only [putL, setL, evL, getL]
    replace H := headE H
    obtain ⟨u55, hu55, H⟩ := H
    obtain ⟨b55, o55, cs55, hr55, hh55, hel55⟩ := Rd.elb HRp0 hu55
    obtain ⟨_, _, rfl, rfl, ⟨A56, c56, rfl, D56⟩⟩ := hr55
    refine HL_cons rfl ?_
    refine hel55 s50 rfl rfl Try.underlying57 tI139 ?_
    try dsimp only [putL, setL, evL, getL]
    refine HL_cons rfl ?_
    refine o_faddr' (ft := 3) (off := 0) rfl Try.underlying139 rfl tI3 (by decide) ?_
    try dsimp only [putL, setL, evL, getL]
    refine HL_cons rfl ?_
    refine o_load' rfl Try.underlying3 rfl ((hh55 hH.bs.mono) 0 _ rfl) ?_
    try dsimp only [putL, setL, evL, getL]
    replace H := headE H
    obtain ⟨u57, hu57, H⟩ := H
    refine HL_cons rfl ?_
    refine o_call (args := #[.int .i64 u55.1]) Try.func223 rfl rfl rfl (spec_l5Arity.ok sb s50 no u55.1 (Hp.own hH.bs) _ hu57) ?_
    rintro _ s57 ⟨rfl, hD⟩
    replace hH := hH.back0 hD (Up.refl _ _ _)
    clear hD
    dsimp only [addC, setC, rmC, selC, getC] at hH
    try dsimp only [putL, setL, evL, getL]
    refine HL_cons rfl ?_
    refine o_bin rfl rfl rfl ?_
    try dsimp only [putL, setL, evL, getL]
    refine HL_cons rfl ?_
    refine o_bin rfl rfl rfl ?_
    try dsimp only [putL, setL, evL, getL]
    refine HL_cons rfl ?_
    refine o_assign ?_
    try dsimp only [putL, setL, evL, getL]
    refine HL_nil ?_
    refine hK54 _ _ ?_
    refine HT_region ?_
    refine HL_cons rfl ?_
    refine o_move ?_
    try dsimp only [putL, setL, evL, getL]
    refine HL_cons rfl ?_
    refine o_bin rfl rfl rfl ?_
    try dsimp only [putL, setL, evL, getL]
    refine HL_cons rfl ?_
    refine o_assign ?_
    try dsimp only [putL, setL, evL, getL]
    refine HL_nil ?_
    exact hK50 _ _ ⟨kf, Nat.lt_succ_self kf, IntKind.i64.wrap (x39 + (IntKind.i64.wrap (u57 - 1))), IntKind.i64.wrap (x40 - 1), H, rfl, hH⟩
   ·replace H := iteF hb53 H
    refine HT_false (congrArg Value.bool hb53) ?_
    refine HT_exit ?_
    exact hK4 _ _ ⟨x40, H, rfl, hH⟩
 ·rintro l' s58 ⟨x31, H, hl, hH⟩
  generalize getL l' 5 = j5, getL l' 9 = j9, getL l' 10 = j10, getL l' 11 = j11, getL l' 12 = j12, getL l' 13 = j13, getL l' 14 = j14, getL l' 15 = j15, getL l' 16 = j16, getL l' 17 = j17, getL l' 18 = j18, getL l' 19 = j19, getL l' 20 = j20, getL l' 21 = j21 at hl
  subst hl
  replace H := hG4 _ H
  try dsimp only at H
  refine HT_seq_k ?_
  intro K59 hK59
  refine HT_region ?_
  refine HL_cons rfl ?_
  refine o_move ?_
  try dsimp only [putL, setL, evL, getL]
  refine HL_cons rfl ?_
  refine o_assign ?_
  try dsimp only [putL, setL, evL, getL]
  refine HL_nil ?_
  refine hK59 _ _ ?_
  refine HT_ret ?_
  exact hQr _ _ [.int .i64 x31] ⟨rfl, trivial⟩ (retH (fun r => spec_l5First.post sb s F0 r _ _) (show some _ = some r from H) ⟨rfl, hH⟩)
def spec_l1Least.f (p0 : Int) (p1 : Int) : Option Int := if (decide (p0 < p1)) = true then (some p0) else (some p1)
def spec_l1Least.post (sb s : St) (F0 : Fp) (r : Int) : Value → St → Prop := fun v s' => v = .int .i64 r ∧ Hp sb s F0 s' []
set_option maxRecDepth 100000 in
set_option maxHeartbeats 4000000 in
theorem spec_l1Least.ok (sb s : St) (F0 : Fp) (p0 : Int) (p1 : Int) (hH : Hp sb s F0 s []) (r : Int) (H : spec_l1Least.f p0 p1 = some r) : GCall Try.prog 182 #[.int .i64 p0, .int .i64 p1] s (spec_l1Least.post sb s F0 r) := by
 refine GCall_ofk [.tmp 4] [.int .i64 p0, .int .i64 p1, undef, undef, undef, undef, undef, undef, undef, undef] Try.func182 rfl rfl rfl ?_
 intro w Q hQr hQn hQp
 replace H := topE H
 unfold spec_l1Least.f at H
 refine HT_seq_k ?_
 intro K1 hK1
 refine HT_region ?_
 refine HL_cons rfl ?_
 refine o_assign ?_
 try dsimp only [putL, setL, evL, getL]
 refine HL_nil ?_
 refine hK1 _ _ ?_
 refine HT_seq_k ?_
 intro K2 hK2
 refine HT_seq_k ?_
 intro K3 hK3
 refine HT_region ?_
 refine HL_cons rfl ?_
 refine o_move ?_
 try dsimp only [putL, setL, evL, getL]
 refine HL_cons rfl ?_
 refine o_move ?_
 try dsimp only [putL, setL, evL, getL]
 refine HL_cons rfl ?_
 refine o_bin rfl rfl rfl ?_
 try dsimp only [putL, setL, evL, getL]
 refine HL_nil ?_
 refine hK3 _ _ ?_
 rcases Bool.eq_false_or_eq_true (decide (p0 < p1)) with hb4 | hb4
 ·replace H := iteT hb4 H
  refine HT_true (congrArg Value.bool hb4) ?_
  refine HT_seq_k ?_
  intro K5 hK5
  refine HT_region ?_
  refine HL_cons rfl ?_
  refine o_move ?_
  try dsimp only [putL, setL, evL, getL]
  refine HL_cons rfl ?_
  refine o_assign ?_
  try dsimp only [putL, setL, evL, getL]
  refine HL_nil ?_
  refine hK5 _ _ ?_
  refine HT_ret ?_
  exact hQr _ _ [.int .i64 p0] ⟨rfl, trivial⟩ (retH (fun r => spec_l1Least.post sb s F0 r _ _) (show some _ = some r from H) ⟨rfl, hH⟩)
 ·replace H := iteF hb4 H
  refine HT_false (congrArg Value.bool hb4) ?_
  refine HT_skip ?_
  refine hK2 _ _ ?_
  refine HT_seq_k ?_
  intro K6 hK6
  refine HT_region ?_
  refine HL_cons rfl ?_
  refine o_move ?_
  try dsimp only [putL, setL, evL, getL]
  refine HL_cons rfl ?_
  refine o_assign ?_
  try dsimp only [putL, setL, evL, getL]
  refine HL_nil ?_
  refine hK6 _ _ ?_
  refine HT_ret ?_
  exact hQr _ _ [.int .i64 p1] ⟨rfl, trivial⟩ (retH (fun r => spec_l1Least.post sb s F0 r _ _) (show some _ = some r from H) ⟨rfl, hH⟩)
end Go.Proofs.Ytkieinlcpkpcjaa
