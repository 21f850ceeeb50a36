/- The functions that the law reaches, as plain functions, each with its contract: printed by a program of the prover's. No conditions: lemmas. -/
import Derived.Test.YtopecknfnhocpaaProg
import Derived.Test.YtopecknfnhocpaaGH
set_option linter.unusedVariables false
set_option linter.unusedSimpArgs false
namespace Go.Proofs.Ytopecknfnhocpaa
open Go Go.Proofs.GL
abbrev KS134 := (Kd.pair KI (Kd.pair KI (Kd.pair KI (Kd.pair KI (Kd.sl KI)))))
abbrev OS134 : Ow KS134 := (Ow.pair OI (Ow.pair OI (Ow.pair OI (Ow.pair OI (Ow.sl OI 3)))))
abbrev OL134 : Ow KS134 := (Ow.pair OI (Ow.pair OI (Ow.pair OI (Ow.pair OI (Ow.lent (Kd.sl KI))))))
abbrev KS136 := (Kd.pair KI KS134)
abbrev OS136 : Ow KS136 := (Ow.pair OI OS134)
abbrev OL136 : Ow KS136 := (Ow.pair OI OL134)
abbrev KS137 := (Kd.pair KI (Kd.pair KI (Kd.pair KI (Kd.pair KI (Kd.sl KI)))))
abbrev OS137 : Ow KS137 := (Ow.pair OI (Ow.pair OI (Ow.pair OI (Ow.pair OI (Ow.sl OI 3)))))
abbrev OL137 : Ow KS137 := (Ow.pair OI (Ow.pair OI (Ow.pair OI (Ow.pair OI (Ow.lent (Kd.sl KI))))))
abbrev KS139 := (Kd.pair KI KS137)
abbrev OS139 : Ow KS139 := (Ow.pair OI OS137)
abbrev OL139 : Ow KS139 := (Ow.pair OI OL137)
theorem tI3 : TI Try.prog 3 (.int .i64 0) 1 8 := by unfold TI; kernel_rfl
theorem tI22 : TI Try.prog 22 (.slice none 0 0) 1 24 := by unfold TI; kernel_rfl
theorem tI134 : TI Try.prog 134 (.agg #[.int .i64 0, .int .i64 0, .int .i64 0, .int .i64 0, .slice none 0 0]) 5 56 := by unfold TI; kernel_rfl
theorem tI136 : TI Try.prog 136 (.agg #[.int .i64 0, .int .i64 0, .int .i64 0, .int .i64 0, .int .i64 0, .slice none 0 0]) 6 64 := by unfold TI; kernel_rfl
theorem tI137 : TI Try.prog 137 (.agg #[.int .i64 0, .int .i64 0, .int .i64 0, .int .i64 0, .slice none 0 0]) 5 56 := by unfold TI; kernel_rfl
theorem tI139 : TI Try.prog 139 (.agg #[.int .i64 0, .int .i64 0, .int .i64 0, .int .i64 0, .int .i64 0, .slice none 0 0]) 6 64 := by unfold TI; kernel_rfl
theorem hMix : Try.prog.follows .mixedOrders = true := by kernel_rfl
def laws_szIntS.f (p0 : List (Int)) (p1 : Int) : Option Int := if (decide ((IntKind.i64.wrap (p1 - (p0.length : Int))) < 0)) = true then (some (-1)) else (some (IntKind.i64.wrap (p1 - (p0.length : Int))))
def laws_szIntS.post (sb s : St) (F0 : Fp) (r : Int) : Value → St → Prop := fun v s' => v = .int .i64 r ∧ Hp sb s F0 s' []
set_option maxRecDepth 100000 in
set_option maxHeartbeats 4000000 in
theorem laws_szIntS.ok (sb s : St) (F0 : Fp) (A0p : Option Addr) (c0p : Nat) (p0 : List (Int)) (p1 : Int) (HRp0 : Rd KI sb A0p c0p p0) (hH : Hp sb s F0 s []) (r : Int) (H : laws_szIntS.f p0 p1 = some r) : GCall Try.prog 83 #[.slice A0p p0.length c0p, .int .i64 p1] s (laws_szIntS.post sb s F0 r) := by
  refine GCall_ofk [.tmp 4] [.slice A0p p0.length c0p, .int .i64 p1, undef, undef, undef, undef, undef, undef, undef, undef, undef, undef] Try.func83 rfl rfl rfl ?_
  intro w Q hQr hQn hQp
  replace H := topE H
  unfold laws_szIntS.f at H
  refine HT_seq_k ?_
  intro K1 hK1
  refine HT_region ?_
  refine HL_cons rfl ?_
  refine o_assign ?_
  try dsimp only [putL, setL, evL, getL]
  refine HL_nil ?_
  refine hK1 _ _ ?_
  refine HT_seq_k ?_
  intro K2 hK2
  refine HT_region ?_
  refine HL_cons rfl ?_
  refine o_move ?_
  try dsimp only [putL, setL, evL, getL]
  refine HL_cons rfl ?_
  refine o_move ?_
  try dsimp only [putL, setL, evL, getL]
  refine HL_cons rfl ?_
  refine o_len rfl Try.underlying22 ?_
  try dsimp only [putL, setL, evL, getL]
  refine HL_cons rfl ?_
  refine o_bin rfl rfl rfl ?_
  try dsimp only [putL, setL, evL, getL]
  refine HL_cons rfl ?_
  refine o_assign ?_
  try dsimp only [putL, setL, evL, getL]
  refine HL_nil ?_
  refine hK2 _ _ ?_
  refine HT_seq_k ?_
  intro K3 hK3
  refine HT_seq_k ?_
  intro K4 hK4
  refine HT_region ?_
  refine HL_cons rfl ?_
  refine o_move ?_
  try dsimp only [putL, setL, evL, getL]
  refine HL_cons rfl ?_
  refine o_bin rfl rfl rfl ?_
  try dsimp only [putL, setL, evL, getL]
  refine HL_nil ?_
  refine hK4 _ _ ?_
  rcases Bool.eq_false_or_eq_true (decide ((IntKind.i64.wrap (p1 - (p0.length : Int))) < 0)) with hb5 | hb5
  · replace H := iteT hb5 H
    refine HT_true (congrArg Value.bool hb5) ?_
    refine HT_seq_k ?_
    intro K6 hK6
    refine HT_region ?_
    refine HL_cons rfl ?_
    refine o_assign ?_
    try dsimp only [putL, setL, evL, getL]
    refine HL_nil ?_
    refine hK6 _ _ ?_
    refine HT_ret ?_
    obtain rfl := Option.some.inj (show some _ = some r from H)
    exact hQr _ _ [.int .i64 (-1)] ⟨rfl, trivial⟩ ⟨rfl, hH⟩
  · replace H := iteF hb5 H
    refine HT_false (congrArg Value.bool hb5) ?_
    refine HT_skip ?_
    refine hK3 _ _ ?_
    refine HT_seq_k ?_
    intro K7 hK7
    refine HT_region ?_
    refine HL_cons rfl ?_
    refine o_move ?_
    try dsimp only [putL, setL, evL, getL]
    refine HL_cons rfl ?_
    refine o_assign ?_
    try dsimp only [putL, setL, evL, getL]
    refine HL_nil ?_
    refine hK7 _ _ ?_
    refine HT_ret ?_
    obtain rfl := Option.some.inj (show some _ = some r from H)
    exact hQr _ _ [.int .i64 (IntKind.i64.wrap (p1 - (p0.length : Int)))] ⟨rfl, trivial⟩ ⟨rfl, hH⟩
def laws_szEvent.f (p0_0 : Int) (p0_1 : Int) (p0_2 : Int) (p0_3 : Int) (p0_4 : List (Int)) (p1 : Int) : Option Int := (laws_szIntS.f p0_4 p1).bind fun u4 => if (decide (u4 < 0)) = true then (some (-1)) else (some u4)
def laws_szEvent.post (sb s : St) (F0 : Fp) (r : Int) : Value → St → Prop := fun v s' => v = .int .i64 r ∧ Hp sb s F0 s' []
set_option maxRecDepth 100000 in
set_option maxHeartbeats 4000000 in
theorem laws_szEvent.ok (sb s : St) (F0 : Fp) (p0_0 : Int) (p0_1 : Int) (p0_2 : Int) (p0_3 : Int) (A0_4p : Option Addr) (c0_4p : Nat) (p0_4 : List (Int)) (p1 : Int) (HRp0_4 : Rd KI sb A0_4p c0_4p p0_4) (hH : Hp sb s F0 s []) (r : Int) (H : laws_szEvent.f p0_0 p0_1 p0_2 p0_3 p0_4 p1 = some r) : GCall Try.prog 155 #[.agg #[.int .i64 p0_0, .int .i64 p0_1, .int .i64 p0_2, .int .i64 p0_3, .slice A0_4p p0_4.length c0_4p], .int .i64 p1] s (laws_szEvent.post sb s F0 r) := by
  refine GCall_ofk [.tmp 4] [.agg #[.int .i64 p0_0, .int .i64 p0_1, .int .i64 p0_2, .int .i64 p0_3, .slice A0_4p p0_4.length c0_4p], .int .i64 p1, undef, undef, undef, undef, undef, undef, undef, undef, undef, undef] Try.func155 rfl rfl rfl ?_
  intro w Q hQr hQn hQp
  replace H := topE H
  unfold laws_szEvent.f at H
  refine HT_seq_k ?_
  intro K1 hK1
  refine HT_region ?_
  refine HL_cons rfl ?_
  refine o_boxH hH rfl ?_
  intro b2 s2 hH' hG
  replace hH : Hp sb s F0 s2 [Ck.ov b2 [.int .i64 p0_0, .int .i64 p0_1, .int .i64 p0_2, .int .i64 p0_3, .slice A0_4p p0_4.length c0_4p] 134] := hH'
  clear hH' hG
  try dsimp only [putL, setL, evL, getL]
  refine HL_cons rfl ?_
  refine o_assign ?_
  try dsimp only [putL, setL, evL, getL]
  refine HL_nil ?_
  refine hK1 _ _ ?_
  refine HT_seq_k ?_
  intro K3 hK3
  refine HT_region ?_
  refine HL_cons rfl ?_
  refine o_faddr' (ft := 22) (off := 4) rfl Try.underlying134 rfl tI22 (by decide) ?_
  try dsimp only [putL, setL, evL, getL]
  refine HL_cons rfl ?_
  refine o_load' rfl Try.underlying22 rfl (hH.hasv 0 rfl rfl) ?_
  try dsimp only [putL, setL, evL, getL]
  refine HL_cons rfl ?_
  refine o_move ?_
  try dsimp only [putL, setL, evL, getL]
  obtain ⟨u4, hu4, H⟩ := headE H
  refine HL_cons rfl ?_
  refine o_call (args := #[.slice A0_4p p0_4.length c0_4p, .int .i64 p1]) Try.func83 rfl rfl rfl (laws_szIntS.ok sb s2 no A0_4p c0_4p p0_4 p1 HRp0_4 (Hp.own hH.bs) _ hu4) ?_
  rintro _ s4 ⟨rfl, hD⟩
  replace hH := hH.back0 hD (Up.refl _ _ _)
  clear hD
  dsimp only [addC, setC, rmC, selC, getC] at hH
  try dsimp only [putL, setL, evL, getL]
  refine HL_cons rfl ?_
  refine o_assign ?_
  try dsimp only [putL, setL, evL, getL]
  refine HL_nil ?_
  refine hK3 _ _ ?_
  refine HT_seq_k ?_
  intro K5 hK5
  refine HT_seq_k ?_
  intro K6 hK6
  refine HT_region ?_
  refine HL_cons rfl ?_
  refine o_move ?_
  try dsimp only [putL, setL, evL, getL]
  refine HL_cons rfl ?_
  refine o_bin rfl rfl rfl ?_
  try dsimp only [putL, setL, evL, getL]
  refine HL_nil ?_
  refine hK6 _ _ ?_
  rcases Bool.eq_false_or_eq_true (decide (u4 < 0)) with hb7 | hb7
  · replace H := iteT hb7 H
    refine HT_true (congrArg Value.bool hb7) ?_
    refine HT_seq_k ?_
    intro K8 hK8
    refine HT_region ?_
    refine HL_cons rfl ?_
    refine o_assign ?_
    try dsimp only [putL, setL, evL, getL]
    refine HL_nil ?_
    refine hK8 _ _ ?_
    refine HT_ret ?_
    obtain rfl := Option.some.inj (show some _ = some r from H)
    exact hQr _ _ [.int .i64 (-1)] ⟨rfl, trivial⟩ ⟨rfl, hH.sel [] (by decide)⟩
  · replace H := iteF hb7 H
    refine HT_false (congrArg Value.bool hb7) ?_
    refine HT_skip ?_
    refine hK5 _ _ ?_
    refine HT_seq_k ?_
    intro K9 hK9
    refine HT_region ?_
    refine HL_cons rfl ?_
    refine o_move ?_
    try dsimp only [putL, setL, evL, getL]
    refine HL_cons rfl ?_
    refine o_assign ?_
    try dsimp only [putL, setL, evL, getL]
    refine HL_nil ?_
    refine hK9 _ _ ?_
    refine HT_ret ?_
    obtain rfl := Option.some.inj (show some _ = some r from H)
    exact hQr _ _ [.int .i64 u4] ⟨rfl, trivial⟩ ⟨rfl, hH.sel [] (by decide)⟩
def laws_szSaid.f (p0_0 : Int) (p0_1 : Int) (p0_2 : Int) (p0_3 : Int) (p0_4 : Int) (p0_5 : List (Int)) (p1 : Int) : Option Int := (laws_szEvent.f p0_1 p0_2 p0_3 p0_4 p0_5 p1).bind fun u4 => if (decide (u4 < 0)) = true then (some (-1)) else (some u4)
def laws_szSaid.post (sb s : St) (F0 : Fp) (r : Int) : Value → St → Prop := fun v s' => v = .int .i64 r ∧ Hp sb s F0 s' []
set_option maxRecDepth 100000 in
set_option maxHeartbeats 4000000 in
theorem laws_szSaid.ok (sb s : St) (F0 : Fp) (p0_0 : Int) (p0_1 : Int) (p0_2 : Int) (p0_3 : Int) (p0_4 : Int) (A0_5p : Option Addr) (c0_5p : Nat) (p0_5 : List (Int)) (p1 : Int) (HRp0_5 : Rd KI sb A0_5p c0_5p p0_5) (hH : Hp sb s F0 s []) (r : Int) (H : laws_szSaid.f p0_0 p0_1 p0_2 p0_3 p0_4 p0_5 p1 = some r) : GCall Try.prog 123 #[.agg #[.int .i64 p0_0, .int .i64 p0_1, .int .i64 p0_2, .int .i64 p0_3, .int .i64 p0_4, .slice A0_5p p0_5.length c0_5p], .int .i64 p1] s (laws_szSaid.post sb s F0 r) := by
  refine GCall_ofk [.tmp 4] [.agg #[.int .i64 p0_0, .int .i64 p0_1, .int .i64 p0_2, .int .i64 p0_3, .int .i64 p0_4, .slice A0_5p p0_5.length c0_5p], .int .i64 p1, undef, undef, undef, undef, undef, undef, undef, undef, undef, undef] Try.func123 rfl rfl rfl ?_
  intro w Q hQr hQn hQp
  replace H := topE H
  unfold laws_szSaid.f at H
  refine HT_seq_k ?_
  intro K1 hK1
  refine HT_region ?_
  refine HL_cons rfl ?_
  refine o_boxH hH rfl ?_
  intro b2 s2 hH' hG
  replace hH : Hp sb s F0 s2 [Ck.ov b2 [.int .i64 p0_0, .int .i64 p0_1, .int .i64 p0_2, .int .i64 p0_3, .int .i64 p0_4, .slice A0_5p p0_5.length c0_5p] 136] := hH'
  clear hH' hG
  try dsimp only [putL, setL, evL, getL]
  refine HL_cons rfl ?_
  refine o_assign ?_
  try dsimp only [putL, setL, evL, getL]
  refine HL_nil ?_
  refine hK1 _ _ ?_
  refine HT_seq_k ?_
  intro K3 hK3
  refine HT_region ?_
  refine HL_cons rfl ?_
  refine o_faddr' (ft := 134) (off := 1) rfl Try.underlying136 rfl tI134 (by decide) ?_
  try dsimp only [putL, setL, evL, getL]
  refine HL_cons rfl ?_
  refine o_loads' [.int .i64 p0_1, .int .i64 p0_2, .int .i64 p0_3, .int .i64 p0_4, .slice A0_5p p0_5.length c0_5p] rfl Try.underlying134 rfl tI134 rfl (hH.partv 0 rfl (0 + 1) [.int .i64 p0_1, .int .i64 p0_2, .int .i64 p0_3, .int .i64 p0_4, .slice A0_5p p0_5.length c0_5p] rfl) ?_
  try dsimp only [putL, setL, evL, getL]
  refine HL_cons rfl ?_
  refine o_move ?_
  try dsimp only [putL, setL, evL, getL]
  obtain ⟨u4, hu4, H⟩ := headE H
  refine HL_cons rfl ?_
  refine o_call (args := #[.agg #[.int .i64 p0_1, .int .i64 p0_2, .int .i64 p0_3, .int .i64 p0_4, .slice A0_5p p0_5.length c0_5p], .int .i64 p1]) Try.func155 rfl rfl rfl (laws_szEvent.ok sb s2 no p0_1 p0_2 p0_3 p0_4 A0_5p c0_5p p0_5 p1 HRp0_5 (Hp.own hH.bs) _ hu4) ?_
  rintro _ s4 ⟨rfl, hD⟩
  replace hH := hH.back0 hD (Up.refl _ _ _)
  clear hD
  dsimp only [addC, setC, rmC, selC, getC] at hH
  try dsimp only [putL, setL, evL, getL]
  refine HL_cons rfl ?_
  refine o_assign ?_
  try dsimp only [putL, setL, evL, getL]
  refine HL_nil ?_
  refine hK3 _ _ ?_
  refine HT_seq_k ?_
  intro K5 hK5
  refine HT_seq_k ?_
  intro K6 hK6
  refine HT_region ?_
  refine HL_cons rfl ?_
  refine o_move ?_
  try dsimp only [putL, setL, evL, getL]
  refine HL_cons rfl ?_
  refine o_bin rfl rfl rfl ?_
  try dsimp only [putL, setL, evL, getL]
  refine HL_nil ?_
  refine hK6 _ _ ?_
  rcases Bool.eq_false_or_eq_true (decide (u4 < 0)) with hb7 | hb7
  · replace H := iteT hb7 H
    refine HT_true (congrArg Value.bool hb7) ?_
    refine HT_seq_k ?_
    intro K8 hK8
    refine HT_region ?_
    refine HL_cons rfl ?_
    refine o_assign ?_
    try dsimp only [putL, setL, evL, getL]
    refine HL_nil ?_
    refine hK8 _ _ ?_
    refine HT_ret ?_
    obtain rfl := Option.some.inj (show some _ = some r from H)
    exact hQr _ _ [.int .i64 (-1)] ⟨rfl, trivial⟩ ⟨rfl, hH.sel [] (by decide)⟩
  · replace H := iteF hb7 H
    refine HT_false (congrArg Value.bool hb7) ?_
    refine HT_skip ?_
    refine hK5 _ _ ?_
    refine HT_seq_k ?_
    intro K9 hK9
    refine HT_region ?_
    refine HL_cons rfl ?_
    refine o_move ?_
    try dsimp only [putL, setL, evL, getL]
    refine HL_cons rfl ?_
    refine o_assign ?_
    try dsimp only [putL, setL, evL, getL]
    refine HL_nil ?_
    refine hK9 _ _ ?_
    refine HT_ret ?_
    obtain rfl := Option.some.inj (show some _ = some r from H)
    exact hQr _ _ [.int .i64 u4] ⟨rfl, trivial⟩ ⟨rfl, hH.sel [] (by decide)⟩
def laws_szSaidS.l1 (p0 : List ((Int) × ((Int) × (Int) × (Int) × (Int) × (List (Int))))) : Nat → Int → Int → Option (Lo Int Int)
  | 0, _, _ => none
  | kf + 1, x60, x61 => if (decide (x61 < (p0.length : Int))) = true then ((rd? p0 x61).bind fun u81 => (laws_szSaid.f u81.1 u81.2.1 u81.2.2.1 u81.2.2.2.1 u81.2.2.2.2.1 u81.2.2.2.2.2 x60).bind fun u83 => if (decide (u83 < 0)) = true then ((some (-1)).bind fun z => some (Lo.ret z)) else (laws_szSaidS.l1 p0 kf u83 (IntKind.i64.wrap (x61 + 1)))) else (some (Lo.go x60))
def laws_szSaidS.f (p0 : List ((Int) × ((Int) × (Int) × (Int) × (Int) × (List (Int))))) (p1 : Int) : Option Int := if (decide ((IntKind.i64.wrap (p1 - (p0.length : Int))) < 0)) = true then (some (-1)) else ((laws_szSaidS.l1 p0 ((((p0.length : Int)) - (0)).toNat + 2) (IntKind.i64.wrap (p1 - (p0.length : Int))) 0).bind fun (o : Lo Int Int) => match o with | .go x48 => (some x48) | .ret z => some z)
def laws_szSaidS.post (sb s : St) (F0 : Fp) (r : Int) : Value → St → Prop := fun v s' => v = .int .i64 r ∧ Hp sb s F0 s' []
set_option maxRecDepth 100000 in
set_option maxHeartbeats 4000000 in
theorem laws_szSaidS.ok (sb s : St) (F0 : Fp) (A0p : Option Addr) (c0p : Nat) (p0 : List ((Int) × ((Int) × (Int) × (Int) × (Int) × (List (Int))))) (p1 : Int) (HRp0 : Rd KS136 sb A0p c0p p0) (hH : Hp sb s F0 s []) (r : Int) (H : laws_szSaidS.f p0 p1 = some r) : GCall Try.prog 56 #[.slice A0p p0.length c0p, .int .i64 p1] s (laws_szSaidS.post sb s F0 r) := by
  refine GCall_ofk [.tmp 4] [.slice A0p p0.length c0p, .int .i64 p1, undef, undef, undef, undef, undef, undef, undef, undef, undef, undef, undef, undef, undef, undef, undef, undef, undef, undef, undef, undef, undef, undef, undef, undef, undef] Try.func56 rfl rfl rfl ?_
  intro w Q hQr hQn hQp
  replace H := topE H
  unfold laws_szSaidS.f at H
  refine HT_seq_k ?_
  intro K1 hK1
  refine HT_region ?_
  refine HL_cons rfl ?_
  refine o_assign ?_
  try dsimp only [putL, setL, evL, getL]
  refine HL_nil ?_
  refine hK1 _ _ ?_
  refine HT_seq_k ?_
  intro K2 hK2
  refine HT_region ?_
  refine HL_cons rfl ?_
  refine o_move ?_
  try dsimp only [putL, setL, evL, getL]
  refine HL_cons rfl ?_
  refine o_move ?_
  try dsimp only [putL, setL, evL, getL]
  refine HL_cons rfl ?_
  refine o_len rfl Try.underlying72 ?_
  try dsimp only [putL, setL, evL, getL]
  refine HL_cons rfl ?_
  refine o_bin rfl rfl rfl ?_
  try dsimp only [putL, setL, evL, getL]
  refine HL_cons rfl ?_
  refine o_assign ?_
  try dsimp only [putL, setL, evL, getL]
  refine HL_nil ?_
  refine hK2 _ _ ?_
  refine HT_seq_k ?_
  intro K3 hK3
  refine HT_seq_k ?_
  intro K4 hK4
  refine HT_region ?_
  refine HL_cons rfl ?_
  refine o_move ?_
  try dsimp only [putL, setL, evL, getL]
  refine HL_cons rfl ?_
  refine o_bin rfl rfl rfl ?_
  try dsimp only [putL, setL, evL, getL]
  refine HL_nil ?_
  refine hK4 _ _ ?_
  rcases Bool.eq_false_or_eq_true (decide ((IntKind.i64.wrap (p1 - (p0.length : Int))) < 0)) with hb5 | hb5
  · replace H := iteT hb5 H
    refine HT_true (congrArg Value.bool hb5) ?_
    refine HT_seq_k ?_
    intro K6 hK6
    refine HT_region ?_
    refine HL_cons rfl ?_
    refine o_assign ?_
    try dsimp only [putL, setL, evL, getL]
    refine HL_nil ?_
    refine hK6 _ _ ?_
    refine HT_ret ?_
    obtain rfl := Option.some.inj (show some _ = some r from H)
    exact hQr _ _ [.int .i64 (-1)] ⟨rfl, trivial⟩ ⟨rfl, hH⟩
  · replace H := iteF hb5 H
    refine HT_false (congrArg Value.bool hb5) ?_
    refine HT_skip ?_
    refine hK3 _ _ ?_
    refine HT_seq_k ?_
    intro K7 hK7
    refine HT_seq_k ?_
    intro K8 hK8
    refine HT_region ?_
    refine HL_cons rfl ?_
    refine o_assign ?_
    try dsimp only [putL, setL, evL, getL]
    refine HL_nil ?_
    refine hK8 _ _ ?_
    refine joinH H fun G9 hG9 H => ?_
    refine HT_toK (fun l' s' => ∃ (x48 : Int), G9 (.go x48) = some r ∧ l' = [.slice A0p p0.length c0p, .int .i64 x48, undef, undef, getL l' 4, getL l' 5, .int .i64 p1, .slice A0p p0.length c0p, .int .i64 (p0.length : Int), .int .i64 (IntKind.i64.wrap (p1 - (p0.length : Int))), .int .i64 (IntKind.i64.wrap (p1 - (p0.length : Int))), .bool (decide ((IntKind.i64.wrap (p1 - (p0.length : Int))) < 0)), getL l' 12, getL l' 13, getL l' 14, getL l' 15, getL l' 16, getL l' 17, getL l' 18, getL l' 19, getL l' 20, getL l' 21, getL l' 22, getL l' 23, getL l' 24, getL l' 25, undef] ∧ Hp sb s F0 s' []) ?_ ?_
    · intro K9 hK9
      refine HT_block ?_
      refine HT_loopK (fun kf l' s' => ∃ (x60 : Int) (x61 : Int), (laws_szSaidS.l1 p0 kf x60 x61).bind G9 = some r ∧ l' = [.slice A0p p0.length c0p, .int .i64 x60, undef, undef, getL l' 4, .int .i64 x61, .int .i64 p1, .slice A0p p0.length c0p, .int .i64 (p0.length : Int), .int .i64 (IntKind.i64.wrap (p1 - (p0.length : Int))), .int .i64 (IntKind.i64.wrap (p1 - (p0.length : Int))), .bool (decide ((IntKind.i64.wrap (p1 - (p0.length : Int))) < 0)), getL l' 12, getL l' 13, getL l' 14, getL l' 15, getL l' 16, getL l' 17, getL l' 18, getL l' 19, getL l' 20, getL l' 21, getL l' 22, getL l' 23, getL l' 24, getL l' 25, undef] ∧ Hp sb s F0 s' []) ((((p0.length : Int)) - (0)).toNat + 2) ⟨IntKind.i64.wrap (p1 - (p0.length : Int)), 0, H, rfl, hH⟩ ?_
      rintro kf l' s75 ⟨x60, x61, H, hl, hH⟩ K75 hK75
      generalize getL l' 4 = j4, getL l' 12 = j12, getL l' 13 = j13, getL l' 14 = j14, getL l' 15 = j15, getL l' 16 = j16, getL l' 17 = j17, getL l' 18 = j18, getL l' 19 = j19, getL l' 20 = j20, getL l' 21 = j21, getL l' 22 = j22, getL l' 23 = j23, getL l' 24 = j24, getL l' 25 = j25 at hl
      subst hl
      cases kf with
      | zero => simp [laws_szSaidS.l1] at H
      | succ kf =>
        rw [laws_szSaidS.l1] at H
        refine HT_seq_k ?_
        intro K76 hK76
        refine HT_seq_k ?_
        intro K77 hK77
        refine HT_region ?_
        refine HL_cons rfl ?_
        refine o_move ?_
        try dsimp only [putL, setL, evL, getL]
        refine HL_cons rfl ?_
        refine o_move ?_
        try dsimp only [putL, setL, evL, getL]
        refine HL_cons rfl ?_
        refine o_len rfl Try.underlying72 ?_
        try dsimp only [putL, setL, evL, getL]
        refine HL_cons rfl ?_
        refine o_bin rfl rfl rfl ?_
        try dsimp only [putL, setL, evL, getL]
        refine HL_nil ?_
        refine hK77 _ _ ?_
        rcases Bool.eq_false_or_eq_true (decide (x61 < (p0.length : Int))) with hb78 | hb78
        · replace H := iteT hb78 H
          refine HT_true (congrArg Value.bool hb78) ?_
          refine HT_skip ?_
          refine hK76 _ _ ?_
          refine HT_seq_k ?_
          intro K79 hK79
          refine HT_block ?_
          refine HT_seq_k ?_
          intro K80 hK80
          refine HT_region ?_
          refine HL_cons rfl ?_
          refine o_move ?_
          try dsimp only [putL, setL, evL, getL]
          refine HL_cons rfl ?_
          refine o_move ?_
          try dsimp only [putL, setL, evL, getL]
          obtain ⟨u81, hu81, H⟩ := headE H
          obtain ⟨b81, o81, cs81, hr81, hh81, hel81⟩ := Rd.elb HRp0 hu81
          obtain ⟨_, _, rfl, rfl, ⟨_, _, rfl, rfl, ⟨_, _, rfl, rfl, ⟨_, _, rfl, rfl, ⟨_, _, rfl, rfl, ⟨A82, c82, rfl, D82⟩⟩⟩⟩⟩⟩ := hr81
          refine HL_cons rfl ?_
          refine hel81 s75 rfl rfl Try.underlying72 tI136 ?_
          try dsimp only [putL, setL, evL, getL]
          refine HL_cons rfl ?_
          refine o_loads' [.int .i64 u81.1, .int .i64 u81.2.1, .int .i64 u81.2.2.1, .int .i64 u81.2.2.2.1, .int .i64 u81.2.2.2.2.1, .slice A82 u81.2.2.2.2.2.length c82] rfl Try.underlying136 rfl tI136 rfl (fun j v hj => (hh81 hH.bs.mono) j v hj) ?_
          try dsimp only [putL, setL, evL, getL]
          refine HL_cons rfl ?_
          refine o_move ?_
          try dsimp only [putL, setL, evL, getL]
          obtain ⟨u83, hu83, H⟩ := headE H
          refine HL_cons rfl ?_
          refine o_call (args := #[.agg #[.int .i64 u81.1, .int .i64 u81.2.1, .int .i64 u81.2.2.1, .int .i64 u81.2.2.2.1, .int .i64 u81.2.2.2.2.1, .slice A82 u81.2.2.2.2.2.length c82], .int .i64 x60]) Try.func123 rfl rfl rfl (laws_szSaid.ok sb s75 no u81.1 u81.2.1 u81.2.2.1 u81.2.2.2.1 u81.2.2.2.2.1 A82 c82 u81.2.2.2.2.2 x60 D82 (Hp.own hH.bs) _ hu83) ?_
          rintro _ s83 ⟨rfl, hD⟩
          replace hH := hH.back0 hD (Up.refl _ _ _)
          clear hD
          dsimp only [addC, setC, rmC, selC, getC] at hH
          try dsimp only [putL, setL, evL, getL]
          refine HL_cons rfl ?_
          refine o_assign ?_
          try dsimp only [putL, setL, evL, getL]
          refine HL_nil ?_
          refine hK80 _ _ ?_
          refine HT_seq_k ?_
          intro K84 hK84
          refine HT_region ?_
          refine HL_cons rfl ?_
          refine o_move ?_
          try dsimp only [putL, setL, evL, getL]
          refine HL_cons rfl ?_
          refine o_bin rfl rfl rfl ?_
          try dsimp only [putL, setL, evL, getL]
          refine HL_nil ?_
          refine hK84 _ _ ?_
          rcases Bool.eq_false_or_eq_true (decide (u83 < 0)) with hb85 | hb85
          · replace H := iteT hb85 H
            refine HT_true (congrArg Value.bool hb85) ?_
            refine HT_seq_k ?_
            intro K86 hK86
            refine HT_region ?_
            refine HL_cons rfl ?_
            refine o_assign ?_
            try dsimp only [putL, setL, evL, getL]
            refine HL_nil ?_
            refine hK86 _ _ ?_
            refine HT_ret ?_
            replace H := escH (fun z hz => hG9 _ hz) H
            obtain rfl := Option.some.inj (show some _ = some r from H)
            exact hQr _ _ [.int .i64 (-1)] ⟨rfl, trivial⟩ ⟨rfl, hH⟩
          · replace H := iteF hb85 H
            refine HT_false (congrArg Value.bool hb85) ?_
            refine HT_skip ?_
            refine hK79 _ _ ?_
            refine HT_region ?_
            refine HL_cons rfl ?_
            refine o_move ?_
            try dsimp only [putL, setL, evL, getL]
            refine HL_cons rfl ?_
            refine o_bin rfl rfl rfl ?_
            try dsimp only [putL, setL, evL, getL]
            refine HL_cons rfl ?_
            refine o_assign ?_
            try dsimp only [putL, setL, evL, getL]
            refine HL_nil ?_
            exact hK75 _ _ ⟨kf, Nat.lt_succ_self kf, u83, IntKind.i64.wrap (x61 + 1), H, rfl, hH⟩
        · replace H := iteF hb78 H
          refine HT_false (congrArg Value.bool hb78) ?_
          refine HT_exit ?_
          exact hK9 _ _ ⟨x60, H, rfl, hH⟩
    · rintro l' s87 ⟨x48, H, hl, hH⟩
      generalize getL l' 4 = j4, getL l' 5 = j5, getL l' 12 = j12, getL l' 13 = j13, getL l' 14 = j14, getL l' 15 = j15, getL l' 16 = j16, getL l' 17 = j17, getL l' 18 = j18, getL l' 19 = j19, getL l' 20 = j20, getL l' 21 = j21, getL l' 22 = j22, getL l' 23 = j23, getL l' 24 = j24, getL l' 25 = j25 at hl
      subst hl
      replace H := hG9 _ H
      try dsimp only at H
      refine hK7 _ _ ?_
      refine HT_seq_k ?_
      intro K88 hK88
      refine HT_region ?_
      refine HL_cons rfl ?_
      refine o_move ?_
      try dsimp only [putL, setL, evL, getL]
      refine HL_cons rfl ?_
      refine o_assign ?_
      try dsimp only [putL, setL, evL, getL]
      refine HL_nil ?_
      refine hK88 _ _ ?_
      refine HT_ret ?_
      obtain rfl := Option.some.inj (show some _ = some r from H)
      exact hQr _ _ [.int .i64 x48] ⟨rfl, trivial⟩ ⟨rfl, hH⟩
def laws_toIntS.l1 (p0 : List (Int)) : Nat → (List (Int)) → Int → Option (List (Int))
  | 0, _, _ => none
  | kf + 1, x41, x42 => if (decide (x42 < (p0.length : Int))) = true then ((rd? p0 x42).bind fun u57 => (rd? x41 x42).bind fun u58 => (st? x41 x42 u57).bind fun x59 => laws_toIntS.l1 p0 kf x59 (IntKind.i64.wrap (x42 + 1))) else (some x41)
def laws_toIntS.f (p0 : List (Int)) : Option (List (Int)) := (mk? 17592186044416 0 (p0.length : Int)).bind fun x3 => (laws_toIntS.l1 p0 ((((p0.length : Int)) - (0)).toNat + 2) x3 0).bind fun (o : (List (Int))) => match o with | x33 => (some x33)
def laws_toIntS.post (sb s : St) (F0 : Fp) (r : (List (Int))) : Value → St → Prop := fun v s' => ∃ (A0 : Option Addr) (c0 : Nat), v = .slice A0 r.length c0 ∧ Hp sb s F0 s' [Ck.ol OI 3 A0 c0 r]
set_option maxRecDepth 100000 in
set_option maxHeartbeats 4000000 in
theorem laws_toIntS.ok (sb s : St) (F0 : Fp) (A0p : Option Addr) (c0p : Nat) (p0 : List (Int)) (HRp0 : Rd KI sb A0p c0p p0) (hH : Hp sb s F0 s []) (r : (List (Int))) (H : laws_toIntS.f p0 = some r) : GCall Try.prog 16 #[.slice A0p p0.length c0p] s (laws_toIntS.post sb s F0 r) := by
  refine GCall_ofk [.tmp 2] [.slice A0p p0.length c0p, undef, undef, undef, undef, undef, undef, undef, undef, undef, undef, undef, undef, undef, undef, undef, undef, undef, undef, undef, undef, undef] Try.func16 rfl rfl rfl ?_
  intro w Q hQr hQn hQp
  replace H := topE H
  unfold laws_toIntS.f at H
  refine HT_seq_k ?_
  intro K1 hK1
  refine HT_region ?_
  refine HL_cons rfl ?_
  refine o_assign ?_
  try dsimp only [putL, setL, evL, getL]
  refine HL_nil ?_
  refine hK1 _ _ ?_
  refine HT_seq_k ?_
  intro K2 hK2
  refine HT_region ?_
  refine HL_cons rfl ?_
  refine o_move ?_
  try dsimp only [putL, setL, evL, getL]
  refine HL_cons rfl ?_
  refine o_len rfl Try.underlying22 ?_
  try dsimp only [putL, setL, evL, getL]
  obtain ⟨x3, hx3, H⟩ := headE H
  refine HL_cons rfl ?_
  refine o_makeH (K := KI) (O := OI) (x0 := 0) hH rfl Try.underlying22 tI3 rfl (by decide) (by decide) (by decide) (Own0.fl fun _ => rfl) hx3 ?_
  intro A3 c3 s3 hH' hG
  replace hH : Hp sb s F0 s3 [Ck.ol OI 3 A3 c3 x3] := hH'
  clear hH' hG
  try dsimp only [putL, setL, evL, getL]
  refine HL_cons rfl ?_
  refine o_assign ?_
  try dsimp only [putL, setL, evL, getL]
  refine HL_nil ?_
  refine hK2 _ _ ?_
  refine HT_seq_k ?_
  intro K4 hK4
  refine HT_seq_k ?_
  intro K5 hK5
  refine HT_region ?_
  refine HL_cons rfl ?_
  refine o_assign ?_
  try dsimp only [putL, setL, evL, getL]
  refine HL_nil ?_
  refine hK5 _ _ ?_
  refine joinH H fun G6 hG6 H => ?_
  refine HT_toK (fun l' s' => ∃ (x33 : List (Int)), G6 x33 = some r ∧ l' = [.slice A0p p0.length c0p, undef, .slice none 0 0, .slice A3 x3.length c3, getL l' 4, .slice A0p p0.length c0p, .int .i64 (p0.length : Int), .slice A3 x3.length c3, getL l' 8, getL l' 9, getL l' 10, getL l' 11, getL l' 12, getL l' 13, getL l' 14, getL l' 15, getL l' 16, getL l' 17, getL l' 18, getL l' 19, getL l' 20, undef] ∧ Hp sb s F0 s' [Ck.ol OI 3 A3 c3 x33] ∧ x33.length = x3.length) ?_ ?_
  · intro K6 hK6
    refine HT_block ?_
    refine HT_loopK (fun kf l' s' => ∃ (x41 : List (Int)) (x42 : Int), (laws_toIntS.l1 p0 kf x41 x42).bind G6 = some r ∧ l' = [.slice A0p p0.length c0p, undef, .slice none 0 0, .slice A3 x3.length c3, .int .i64 x42, .slice A0p p0.length c0p, .int .i64 (p0.length : Int), .slice A3 x3.length c3, getL l' 8, getL l' 9, getL l' 10, getL l' 11, getL l' 12, getL l' 13, getL l' 14, getL l' 15, getL l' 16, getL l' 17, getL l' 18, getL l' 19, getL l' 20, undef] ∧ Hp sb s F0 s' [Ck.ol OI 3 A3 c3 x41] ∧ x41.length = x3.length) ((((p0.length : Int)) - (0)).toNat + 2) ⟨x3, 0, H, rfl, hH, rfl⟩ ?_
    rintro kf l' s52 ⟨x41, x42, H, hl, hH, hl41⟩ K52 hK52
    generalize getL l' 8 = j8, getL l' 9 = j9, getL l' 10 = j10, getL l' 11 = j11, getL l' 12 = j12, getL l' 13 = j13, getL l' 14 = j14, getL l' 15 = j15, getL l' 16 = j16, getL l' 17 = j17, getL l' 18 = j18, getL l' 19 = j19, getL l' 20 = j20 at hl
    subst hl
    cases kf with
    | zero => simp [laws_toIntS.l1] at H
    | succ kf =>
      rw [laws_toIntS.l1] at H
      refine HT_seq_k ?_
      intro K53 hK53
      refine HT_seq_k ?_
      intro K54 hK54
      refine HT_region ?_
      refine HL_cons rfl ?_
      refine o_move ?_
      try dsimp only [putL, setL, evL, getL]
      refine HL_cons rfl ?_
      refine o_move ?_
      try dsimp only [putL, setL, evL, getL]
      refine HL_cons rfl ?_
      refine o_len rfl Try.underlying22 ?_
      try dsimp only [putL, setL, evL, getL]
      refine HL_cons rfl ?_
      refine o_bin rfl rfl rfl ?_
      try dsimp only [putL, setL, evL, getL]
      refine HL_nil ?_
      refine hK54 _ _ ?_
      rcases Bool.eq_false_or_eq_true (decide (x42 < (p0.length : Int))) with hb55 | hb55
      · replace H := iteT hb55 H
        refine HT_true (congrArg Value.bool hb55) ?_
        refine HT_skip ?_
        refine hK53 _ _ ?_
        refine HT_seq_k ?_
        intro K56 hK56
        refine HT_block ?_
        refine HT_region ?_
        refine HL_cons rfl ?_
        refine o_move ?_
        try dsimp only [putL, setL, evL, getL]
        refine HL_cons rfl ?_
        refine o_move ?_
        try dsimp only [putL, setL, evL, getL]
        refine HL_cons rfl ?_
        refine o_move ?_
        try dsimp only [putL, setL, evL, getL]
        refine HL_cons rfl ?_
        refine o_move ?_
        try dsimp only [putL, setL, evL, getL]
        obtain ⟨u57, hu57, H⟩ := headE H
        obtain ⟨b57, o57, cs57, hr57, hh57, hel57⟩ := Rd.elb HRp0 hu57
        obtain rfl := hr57
        refine HL_cons rfl ?_
        refine hel57 s52 rfl rfl Try.underlying22 tI3 ?_
        try dsimp only [putL, setL, evL, getL]
        refine HL_cons rfl ?_
        refine o_load' rfl Try.underlying3 rfl ((hh57 hH.bs.mono) 0 _ rfl) ?_
        try dsimp only [putL, setL, evL, getL]
        obtain ⟨u58, hu58, H⟩ := headE H
        obtain ⟨b58, o58, cs58, hA58, hr58, hh58, hel58⟩ := hH.elo 0 rfl hu58
        obtain rfl := hr58
        refine HL_cons rfl ?_
        refine hel58 s52 (sliceLen hl41) rfl Try.underlying22 tI3 ?_
        try dsimp only [putL, setL, evL, getL]
        obtain ⟨x59, hx59, H⟩ := headE H
        refine HL_cons rfl ?_
        refine o_setF (vs := [.int .i64 u57]) (u := u57) hH 0 rfl rfl rfl rfl rfl tI3 hA58 hx59 (Ent.own (Ent.flat rfl)) ?_
        intro s59 hH'
        have hl59 := (st?_len hx59).trans hl41
        replace hH : Hp sb s F0 s59 [Ck.ol OI 3 A3 c3 x59] := hH'
        clear hH'
        try dsimp only [putL, setL, evL, getL]
        refine HL_nil ?_
        refine hK56 _ _ ?_
        refine HT_region ?_
        refine HL_cons rfl ?_
        refine o_move ?_
        try dsimp only [putL, setL, evL, getL]
        refine HL_cons rfl ?_
        refine o_bin rfl rfl rfl ?_
        try dsimp only [putL, setL, evL, getL]
        refine HL_cons rfl ?_
        refine o_assign ?_
        try dsimp only [putL, setL, evL, getL]
        refine HL_nil ?_
        exact hK52 _ _ ⟨kf, Nat.lt_succ_self kf, x59, IntKind.i64.wrap (x42 + 1), H, rfl, hH, hl59⟩
      · replace H := iteF hb55 H
        refine HT_false (congrArg Value.bool hb55) ?_
        refine HT_exit ?_
        exact hK6 _ _ ⟨x41, H, rfl, hH, hl41⟩
  · rintro l' s60 ⟨x33, H, hl, hH, hl33⟩
    generalize getL l' 4 = j4, getL l' 8 = j8, getL l' 9 = j9, getL l' 10 = j10, getL l' 11 = j11, getL l' 12 = j12, getL l' 13 = j13, getL l' 14 = j14, getL l' 15 = j15, getL l' 16 = j16, getL l' 17 = j17, getL l' 18 = j18, getL l' 19 = j19, getL l' 20 = j20 at hl
    subst hl
    replace H := hG6 _ H
    try dsimp only at H
    refine hK4 _ _ ?_
    refine HT_seq_k ?_
    intro K61 hK61
    refine HT_region ?_
    refine HL_cons rfl ?_
    refine o_move ?_
    try dsimp only [putL, setL, evL, getL]
    refine HL_cons rfl ?_
    refine o_assign ?_
    try dsimp only [putL, setL, evL, getL]
    refine HL_nil ?_
    refine hK61 _ _ ?_
    refine HT_ret ?_
    obtain rfl := Option.some.inj (show some _ = some r from H)
    exact hQr _ _ [.slice A3 x3.length c3] ⟨rfl, trivial⟩ ⟨A3, c3, (by rw [hl33]; first | done | rfl), hH⟩
def laws_toEvent.f (p0_0 : Int) (p0_1 : Int) (p0_2 : Int) (p0_3 : Int) (p0_4 : List (Int)) : Option (Int × Int × Int × Int × (List (Int))) := (laws_toIntS.f p0_4).bind fun u15 => some (p0_0, p0_1, p0_2, p0_3, u15)
def laws_toEvent.post (sb s : St) (F0 : Fp) (r : Int × Int × Int × Int × (List (Int))) : Value → St → Prop := fun v s' => ∃ (A4 : Option Addr) (c4 : Nat), v = .agg #[.int .i64 r.1, .int .i64 r.2.1, .int .i64 r.2.2.1, .int .i64 r.2.2.2.1, .slice A4 r.2.2.2.2.length c4] ∧ Hp sb s F0 s' [Ck.ol OI 3 A4 c4 r.2.2.2.2]
set_option maxRecDepth 100000 in
set_option maxHeartbeats 4000000 in
theorem laws_toEvent.ok (sb s : St) (F0 : Fp) (p0_0 : Int) (p0_1 : Int) (p0_2 : Int) (p0_3 : Int) (A0_4p : Option Addr) (c0_4p : Nat) (p0_4 : List (Int)) (HRp0_4 : Rd KI sb A0_4p c0_4p p0_4) (hH : Hp sb s F0 s []) (r : Int × Int × Int × Int × (List (Int))) (H : laws_toEvent.f p0_0 p0_1 p0_2 p0_3 p0_4 = some r) : GCall Try.prog 156 #[.agg #[.int .i64 p0_0, .int .i64 p0_1, .int .i64 p0_2, .int .i64 p0_3, .slice A0_4p p0_4.length c0_4p]] s (laws_toEvent.post sb s F0 r) := by
  refine GCall_ofk [.cell 2 137] [.agg #[.int .i64 p0_0, .int .i64 p0_1, .int .i64 p0_2, .int .i64 p0_3, .slice A0_4p p0_4.length c0_4p], undef, undef, undef, undef, undef, undef, undef, undef, undef, undef, undef, undef, undef, undef, undef, undef, undef, undef, undef, undef] Try.func156 rfl rfl rfl ?_
  intro w Q hQr hQn hQp
  replace H := topE H
  unfold laws_toEvent.f at H
  refine HT_seq_k ?_
  intro K1 hK1
  refine HT_region ?_
  refine HL_cons rfl ?_
  refine o_boxH hH rfl ?_
  intro b2 s2 hH' hG
  replace hH : Hp sb s F0 s2 [Ck.ov b2 [.int .i64 p0_0, .int .i64 p0_1, .int .i64 p0_2, .int .i64 p0_3, .slice A0_4p p0_4.length c0_4p] 134] := hH'
  clear hH' hG
  try dsimp only [putL, setL, evL, getL]
  refine HL_cons rfl ?_
  refine o_allocH hH tI137 ?_
  intro b3 s3 hH' hG
  replace hH : Hp sb s F0 s3 [Ck.ov b2 [.int .i64 p0_0, .int .i64 p0_1, .int .i64 p0_2, .int .i64 p0_3, .slice A0_4p p0_4.length c0_4p] 134, Ck.ov b3 [.int .i64 0, .int .i64 0, .int .i64 0, .int .i64 0, .slice none 0 0] 137] := hH'
  clear hH' hG
  try dsimp only [putL, setL, evL, getL]
  refine HL_nil ?_
  refine hK1 _ _ ?_
  refine HT_seq_k ?_
  intro K4 hK4
  refine HT_region ?_
  refine HL_cons rfl ?_
  refine o_allocH hH tI137 ?_
  intro b5 s5 hH' hG
  replace hH : Hp sb s F0 s5 [Ck.ov b2 [.int .i64 p0_0, .int .i64 p0_1, .int .i64 p0_2, .int .i64 p0_3, .slice A0_4p p0_4.length c0_4p] 134, Ck.ov b3 [.int .i64 0, .int .i64 0, .int .i64 0, .int .i64 0, .slice none 0 0] 137, Ck.ov b5 [.int .i64 0, .int .i64 0, .int .i64 0, .int .i64 0, .slice none 0 0] 137] := hH'
  clear hH' hG
  try dsimp only [putL, setL, evL, getL]
  refine HL_nil ?_
  refine hK4 _ _ ?_
  refine HT_seq_k ?_
  intro K6 hK6
  refine HT_region ?_
  refine HL_cons rfl ?_
  refine o_faddr' (ft := 3) (off := 0) rfl Try.underlying134 rfl tI3 (by decide) ?_
  try dsimp only [putL, setL, evL, getL]
  refine HL_cons rfl ?_
  refine o_load' rfl Try.underlying3 rfl (hH.hasv 0 rfl rfl) ?_
  try dsimp only [putL, setL, evL, getL]
  refine HL_cons rfl ?_
  refine o_faddr' (ft := 3) (off := 0) rfl Try.underlying137 rfl tI3 (by decide) ?_
  try dsimp only [putL, setL, evL, getL]
  refine HL_cons rfl ?_
  refine o_stvH (vs := [.int .i64 p0_0]) (us' := [.int .i64 p0_0, .int .i64 0, .int .i64 0, .int .i64 0, .slice none 0 0]) hH 2 rfl rfl rfl rfl rfl tI3 rfl (List.cons_ne_nil _ _) rfl rfl rfl ?_
  intro s7 hH'
  replace hH : Hp sb s F0 s7 [Ck.ov b2 [.int .i64 p0_0, .int .i64 p0_1, .int .i64 p0_2, .int .i64 p0_3, .slice A0_4p p0_4.length c0_4p] 134, Ck.ov b3 [.int .i64 0, .int .i64 0, .int .i64 0, .int .i64 0, .slice none 0 0] 137, Ck.ov b5 [.int .i64 p0_0, .int .i64 0, .int .i64 0, .int .i64 0, .slice none 0 0] 137] := hH'
  clear hH'
  try dsimp only [putL, setL, evL, getL]
  refine HL_nil ?_
  refine hK6 _ _ ?_
  refine HT_seq_k ?_
  intro K8 hK8
  refine HT_region ?_
  refine HL_cons rfl ?_
  refine o_faddr' (ft := 3) (off := 1) rfl Try.underlying134 rfl tI3 (by decide) ?_
  try dsimp only [putL, setL, evL, getL]
  refine HL_cons rfl ?_
  refine o_load' rfl Try.underlying3 rfl (hH.hasv 0 rfl rfl) ?_
  try dsimp only [putL, setL, evL, getL]
  refine HL_cons rfl ?_
  refine o_faddr' (ft := 3) (off := 1) rfl Try.underlying137 rfl tI3 (by decide) ?_
  try dsimp only [putL, setL, evL, getL]
  refine HL_cons rfl ?_
  refine o_stvH (vs := [.int .i64 p0_1]) (us' := [.int .i64 p0_0, .int .i64 p0_1, .int .i64 0, .int .i64 0, .slice none 0 0]) hH 2 rfl rfl rfl rfl rfl tI3 rfl (List.cons_ne_nil _ _) rfl rfl rfl ?_
  intro s9 hH'
  replace hH : Hp sb s F0 s9 [Ck.ov b2 [.int .i64 p0_0, .int .i64 p0_1, .int .i64 p0_2, .int .i64 p0_3, .slice A0_4p p0_4.length c0_4p] 134, Ck.ov b3 [.int .i64 0, .int .i64 0, .int .i64 0, .int .i64 0, .slice none 0 0] 137, Ck.ov b5 [.int .i64 p0_0, .int .i64 p0_1, .int .i64 0, .int .i64 0, .slice none 0 0] 137] := hH'
  clear hH'
  try dsimp only [putL, setL, evL, getL]
  refine HL_nil ?_
  refine hK8 _ _ ?_
  refine HT_seq_k ?_
  intro K10 hK10
  refine HT_region ?_
  refine HL_cons rfl ?_
  refine o_faddr' (ft := 3) (off := 2) rfl Try.underlying134 rfl tI3 (by decide) ?_
  try dsimp only [putL, setL, evL, getL]
  refine HL_cons rfl ?_
  refine o_load' rfl Try.underlying3 rfl (hH.hasv 0 rfl rfl) ?_
  try dsimp only [putL, setL, evL, getL]
  refine HL_cons rfl ?_
  refine o_faddr' (ft := 3) (off := 2) rfl Try.underlying137 rfl tI3 (by decide) ?_
  try dsimp only [putL, setL, evL, getL]
  refine HL_cons rfl ?_
  refine o_stvH (vs := [.int .i64 p0_2]) (us' := [.int .i64 p0_0, .int .i64 p0_1, .int .i64 p0_2, .int .i64 0, .slice none 0 0]) hH 2 rfl rfl rfl rfl rfl tI3 rfl (List.cons_ne_nil _ _) rfl rfl rfl ?_
  intro s11 hH'
  replace hH : Hp sb s F0 s11 [Ck.ov b2 [.int .i64 p0_0, .int .i64 p0_1, .int .i64 p0_2, .int .i64 p0_3, .slice A0_4p p0_4.length c0_4p] 134, Ck.ov b3 [.int .i64 0, .int .i64 0, .int .i64 0, .int .i64 0, .slice none 0 0] 137, Ck.ov b5 [.int .i64 p0_0, .int .i64 p0_1, .int .i64 p0_2, .int .i64 0, .slice none 0 0] 137] := hH'
  clear hH'
  try dsimp only [putL, setL, evL, getL]
  refine HL_nil ?_
  refine hK10 _ _ ?_
  refine HT_seq_k ?_
  intro K12 hK12
  refine HT_region ?_
  refine HL_cons rfl ?_
  refine o_faddr' (ft := 3) (off := 3) rfl Try.underlying134 rfl tI3 (by decide) ?_
  try dsimp only [putL, setL, evL, getL]
  refine HL_cons rfl ?_
  refine o_load' rfl Try.underlying3 rfl (hH.hasv 0 rfl rfl) ?_
  try dsimp only [putL, setL, evL, getL]
  refine HL_cons rfl ?_
  refine o_faddr' (ft := 3) (off := 3) rfl Try.underlying137 rfl tI3 (by decide) ?_
  try dsimp only [putL, setL, evL, getL]
  refine HL_cons rfl ?_
  refine o_stvH (vs := [.int .i64 p0_3]) (us' := [.int .i64 p0_0, .int .i64 p0_1, .int .i64 p0_2, .int .i64 p0_3, .slice none 0 0]) hH 2 rfl rfl rfl rfl rfl tI3 rfl (List.cons_ne_nil _ _) rfl rfl rfl ?_
  intro s13 hH'
  replace hH : Hp sb s F0 s13 [Ck.ov b2 [.int .i64 p0_0, .int .i64 p0_1, .int .i64 p0_2, .int .i64 p0_3, .slice A0_4p p0_4.length c0_4p] 134, Ck.ov b3 [.int .i64 0, .int .i64 0, .int .i64 0, .int .i64 0, .slice none 0 0] 137, Ck.ov b5 [.int .i64 p0_0, .int .i64 p0_1, .int .i64 p0_2, .int .i64 p0_3, .slice none 0 0] 137] := hH'
  clear hH'
  try dsimp only [putL, setL, evL, getL]
  refine HL_nil ?_
  refine hK12 _ _ ?_
  refine HT_seq_k ?_
  intro K14 hK14
  refine HT_region ?_
  refine HL_cons rfl ?_
  refine o_faddr' (ft := 22) (off := 4) rfl Try.underlying134 rfl tI22 (by decide) ?_
  try dsimp only [putL, setL, evL, getL]
  refine HL_cons rfl ?_
  refine o_load' rfl Try.underlying22 rfl (hH.hasv 0 rfl rfl) ?_
  try dsimp only [putL, setL, evL, getL]
  obtain ⟨u15, hu15, H⟩ := headE H
  refine HL_cons rfl ?_
  refine o_call (args := #[.slice A0_4p p0_4.length c0_4p]) Try.func16 rfl rfl rfl (laws_toIntS.ok sb s13 no A0_4p c0_4p p0_4 HRp0_4 (Hp.own hH.bs) _ hu15) ?_
  rintro _ s15 ⟨A16, c16, rfl, hD⟩
  replace hH := hH.back0 hD (Up.refl _ _ _)
  clear hD
  dsimp only [addC, setC, rmC, selC, getC] at hH
  try dsimp only [putL, setL, evL, getL]
  refine HL_cons rfl ?_
  refine o_faddr' (ft := 22) (off := 4) rfl Try.underlying137 rfl tI22 (by decide) ?_
  try dsimp only [putL, setL, evL, getL]
  refine HL_cons rfl ?_
  refine o_stvH (vs := [.slice A16 u15.length c16]) (us' := [.int .i64 p0_0, .int .i64 p0_1, .int .i64 p0_2, .int .i64 p0_3, .slice A16 u15.length c16]) hH 2 rfl rfl rfl rfl rfl tI22 rfl (List.cons_ne_nil _ _) rfl rfl rfl ?_
  intro s17 hH'
  replace hH : Hp sb s F0 s17 [Ck.ov b2 [.int .i64 p0_0, .int .i64 p0_1, .int .i64 p0_2, .int .i64 p0_3, .slice A0_4p p0_4.length c0_4p] 134, Ck.ov b3 [.int .i64 0, .int .i64 0, .int .i64 0, .int .i64 0, .slice none 0 0] 137, Ck.ov b5 [.int .i64 p0_0, .int .i64 p0_1, .int .i64 p0_2, .int .i64 p0_3, .slice A16 u15.length c16] 137, Ck.ol OI 3 A16 c16 u15] := hH'
  clear hH'
  try dsimp only [putL, setL, evL, getL]
  refine HL_nil ?_
  refine hK14 _ _ ?_
  refine HT_seq_k ?_
  intro K18 hK18
  refine HT_region ?_
  refine HL_cons rfl ?_
  refine o_loads' [.int .i64 p0_0, .int .i64 p0_1, .int .i64 p0_2, .int .i64 p0_3, .slice A16 u15.length c16] rfl Try.underlying137 rfl tI137 rfl (hH.partv 2 rfl (0) [.int .i64 p0_0, .int .i64 p0_1, .int .i64 p0_2, .int .i64 p0_3, .slice A16 u15.length c16] rfl) ?_
  try dsimp only [putL, setL, evL, getL]
  refine HL_cons rfl ?_
  refine o_stvH (vs := [.int .i64 p0_0, .int .i64 p0_1, .int .i64 p0_2, .int .i64 p0_3, .slice A16 u15.length c16]) (us' := [.int .i64 p0_0, .int .i64 p0_1, .int .i64 p0_2, .int .i64 p0_3, .slice A16 u15.length c16]) hH 1 rfl rfl rfl rfl rfl tI137 rfl (List.cons_ne_nil _ _) rfl rfl rfl ?_
  intro s19 hH'
  replace hH : Hp sb s F0 s19 [Ck.ov b2 [.int .i64 p0_0, .int .i64 p0_1, .int .i64 p0_2, .int .i64 p0_3, .slice A0_4p p0_4.length c0_4p] 134, Ck.ov b3 [.int .i64 p0_0, .int .i64 p0_1, .int .i64 p0_2, .int .i64 p0_3, .slice A16 u15.length c16] 137, Ck.ov b5 [.int .i64 p0_0, .int .i64 p0_1, .int .i64 p0_2, .int .i64 p0_3, .slice A16 u15.length c16] 137, Ck.ol OI 3 A16 c16 u15] := hH'
  clear hH'
  try dsimp only [putL, setL, evL, getL]
  refine HL_nil ?_
  refine hK18 _ _ ?_
  refine HT_ret ?_
  obtain rfl := Option.some.inj (show some _ = some r from H)
  exact hQr _ _ [.agg #[.int .i64 p0_0, .int .i64 p0_1, .int .i64 p0_2, .int .i64 p0_3, .slice A16 u15.length c16]] ⟨ResV.cells rfl Try.underlying137 rfl tI137 (hH.var 1 rfl) rfl, trivial⟩ ⟨A16, c16, rfl, hH.sel [3] (by decide)⟩
def laws_toSaid.f (p0_0 : Int) (p0_1 : Int) (p0_2 : Int) (p0_3 : Int) (p0_4 : Int) (p0_5 : List (Int)) : Option (Int × Int × Int × Int × Int × (List (Int))) := (laws_toEvent.f p0_1 p0_2 p0_3 p0_4 p0_5).bind fun u9 => some (p0_0, u9.1, u9.2.1, u9.2.2.1, u9.2.2.2.1, u9.2.2.2.2)
def laws_toSaid.post (sb s : St) (F0 : Fp) (r : Int × Int × Int × Int × Int × (List (Int))) : Value → St → Prop := fun v s' => ∃ (A5 : Option Addr) (c5 : Nat), v = .agg #[.int .i64 r.1, .int .i64 r.2.1, .int .i64 r.2.2.1, .int .i64 r.2.2.2.1, .int .i64 r.2.2.2.2.1, .slice A5 r.2.2.2.2.2.length c5] ∧ Hp sb s F0 s' [Ck.ol OI 3 A5 c5 r.2.2.2.2.2]
set_option maxRecDepth 100000 in
set_option maxHeartbeats 4000000 in
theorem laws_toSaid.ok (sb s : St) (F0 : Fp) (p0_0 : Int) (p0_1 : Int) (p0_2 : Int) (p0_3 : Int) (p0_4 : Int) (A0_5p : Option Addr) (c0_5p : Nat) (p0_5 : List (Int)) (HRp0_5 : Rd KI sb A0_5p c0_5p p0_5) (hH : Hp sb s F0 s []) (r : Int × Int × Int × Int × Int × (List (Int))) (H : laws_toSaid.f p0_0 p0_1 p0_2 p0_3 p0_4 p0_5 = some r) : GCall Try.prog 125 #[.agg #[.int .i64 p0_0, .int .i64 p0_1, .int .i64 p0_2, .int .i64 p0_3, .int .i64 p0_4, .slice A0_5p p0_5.length c0_5p]] s (laws_toSaid.post sb s F0 r) := by
  refine GCall_ofk [.cell 2 139] [.agg #[.int .i64 p0_0, .int .i64 p0_1, .int .i64 p0_2, .int .i64 p0_3, .int .i64 p0_4, .slice A0_5p p0_5.length c0_5p], undef, undef, undef, undef, undef, undef, undef, undef, undef, undef, undef] Try.func125 rfl rfl rfl ?_
  intro w Q hQr hQn hQp
  replace H := topE H
  unfold laws_toSaid.f at H
  refine HT_seq_k ?_
  intro K1 hK1
  refine HT_region ?_
  refine HL_cons rfl ?_
  refine o_boxH hH rfl ?_
  intro b2 s2 hH' hG
  replace hH : Hp sb s F0 s2 [Ck.ov b2 [.int .i64 p0_0, .int .i64 p0_1, .int .i64 p0_2, .int .i64 p0_3, .int .i64 p0_4, .slice A0_5p p0_5.length c0_5p] 136] := hH'
  clear hH' hG
  try dsimp only [putL, setL, evL, getL]
  refine HL_cons rfl ?_
  refine o_allocH hH tI139 ?_
  intro b3 s3 hH' hG
  replace hH : Hp sb s F0 s3 [Ck.ov b2 [.int .i64 p0_0, .int .i64 p0_1, .int .i64 p0_2, .int .i64 p0_3, .int .i64 p0_4, .slice A0_5p p0_5.length c0_5p] 136, Ck.ov b3 [.int .i64 0, .int .i64 0, .int .i64 0, .int .i64 0, .int .i64 0, .slice none 0 0] 139] := hH'
  clear hH' hG
  try dsimp only [putL, setL, evL, getL]
  refine HL_nil ?_
  refine hK1 _ _ ?_
  refine HT_seq_k ?_
  intro K4 hK4
  refine HT_region ?_
  refine HL_cons rfl ?_
  refine o_allocH hH tI139 ?_
  intro b5 s5 hH' hG
  replace hH : Hp sb s F0 s5 [Ck.ov b2 [.int .i64 p0_0, .int .i64 p0_1, .int .i64 p0_2, .int .i64 p0_3, .int .i64 p0_4, .slice A0_5p p0_5.length c0_5p] 136, Ck.ov b3 [.int .i64 0, .int .i64 0, .int .i64 0, .int .i64 0, .int .i64 0, .slice none 0 0] 139, Ck.ov b5 [.int .i64 0, .int .i64 0, .int .i64 0, .int .i64 0, .int .i64 0, .slice none 0 0] 139] := hH'
  clear hH' hG
  try dsimp only [putL, setL, evL, getL]
  refine HL_nil ?_
  refine hK4 _ _ ?_
  refine HT_seq_k ?_
  intro K6 hK6
  refine HT_region ?_
  refine HL_cons rfl ?_
  refine o_faddr' (ft := 3) (off := 0) rfl Try.underlying136 rfl tI3 (by decide) ?_
  try dsimp only [putL, setL, evL, getL]
  refine HL_cons rfl ?_
  refine o_load' rfl Try.underlying3 rfl (hH.hasv 0 rfl rfl) ?_
  try dsimp only [putL, setL, evL, getL]
  refine HL_cons rfl ?_
  refine o_faddr' (ft := 3) (off := 0) rfl Try.underlying139 rfl tI3 (by decide) ?_
  try dsimp only [putL, setL, evL, getL]
  refine HL_cons rfl ?_
  refine o_stvH (vs := [.int .i64 p0_0]) (us' := [.int .i64 p0_0, .int .i64 0, .int .i64 0, .int .i64 0, .int .i64 0, .slice none 0 0]) hH 2 rfl rfl rfl rfl rfl tI3 rfl (List.cons_ne_nil _ _) rfl rfl rfl ?_
  intro s7 hH'
  replace hH : Hp sb s F0 s7 [Ck.ov b2 [.int .i64 p0_0, .int .i64 p0_1, .int .i64 p0_2, .int .i64 p0_3, .int .i64 p0_4, .slice A0_5p p0_5.length c0_5p] 136, Ck.ov b3 [.int .i64 0, .int .i64 0, .int .i64 0, .int .i64 0, .int .i64 0, .slice none 0 0] 139, Ck.ov b5 [.int .i64 p0_0, .int .i64 0, .int .i64 0, .int .i64 0, .int .i64 0, .slice none 0 0] 139] := hH'
  clear hH'
  try dsimp only [putL, setL, evL, getL]
  refine HL_nil ?_
  refine hK6 _ _ ?_
  refine HT_seq_k ?_
  intro K8 hK8
  refine HT_region ?_
  refine HL_cons rfl ?_
  refine o_faddr' (ft := 134) (off := 1) rfl Try.underlying136 rfl tI134 (by decide) ?_
  try dsimp only [putL, setL, evL, getL]
  refine HL_cons rfl ?_
  refine o_loads' [.int .i64 p0_1, .int .i64 p0_2, .int .i64 p0_3, .int .i64 p0_4, .slice A0_5p p0_5.length c0_5p] rfl Try.underlying134 rfl tI134 rfl (hH.partv 0 rfl (0 + 1) [.int .i64 p0_1, .int .i64 p0_2, .int .i64 p0_3, .int .i64 p0_4, .slice A0_5p p0_5.length c0_5p] rfl) ?_
  try dsimp only [putL, setL, evL, getL]
  obtain ⟨u9, hu9, H⟩ := headE H
  refine HL_cons rfl ?_
  refine o_call (args := #[.agg #[.int .i64 p0_1, .int .i64 p0_2, .int .i64 p0_3, .int .i64 p0_4, .slice A0_5p p0_5.length c0_5p]]) Try.func156 rfl rfl rfl (laws_toEvent.ok sb s7 no p0_1 p0_2 p0_3 p0_4 A0_5p c0_5p p0_5 HRp0_5 (Hp.own hH.bs) _ hu9) ?_
  rintro _ s9 ⟨A10, c10, rfl, hD⟩
  replace hH := hH.back0 hD (Up.refl _ _ _)
  clear hD
  dsimp only [addC, setC, rmC, selC, getC] at hH
  try dsimp only [putL, setL, evL, getL]
  refine HL_cons rfl ?_
  refine o_faddr' (ft := 137) (off := 1) rfl Try.underlying139 rfl tI137 (by decide) ?_
  try dsimp only [putL, setL, evL, getL]
  refine HL_cons rfl ?_
  refine o_stvH (vs := [.int .i64 u9.1, .int .i64 u9.2.1, .int .i64 u9.2.2.1, .int .i64 u9.2.2.2.1, .slice A10 u9.2.2.2.2.length c10]) (us' := [.int .i64 p0_0, .int .i64 u9.1, .int .i64 u9.2.1, .int .i64 u9.2.2.1, .int .i64 u9.2.2.2.1, .slice A10 u9.2.2.2.2.length c10]) hH 2 rfl rfl rfl rfl rfl tI137 rfl (List.cons_ne_nil _ _) rfl rfl rfl ?_
  intro s11 hH'
  replace hH : Hp sb s F0 s11 [Ck.ov b2 [.int .i64 p0_0, .int .i64 p0_1, .int .i64 p0_2, .int .i64 p0_3, .int .i64 p0_4, .slice A0_5p p0_5.length c0_5p] 136, Ck.ov b3 [.int .i64 0, .int .i64 0, .int .i64 0, .int .i64 0, .int .i64 0, .slice none 0 0] 139, Ck.ov b5 [.int .i64 p0_0, .int .i64 u9.1, .int .i64 u9.2.1, .int .i64 u9.2.2.1, .int .i64 u9.2.2.2.1, .slice A10 u9.2.2.2.2.length c10] 139, Ck.ol OI 3 A10 c10 u9.2.2.2.2] := hH'
  clear hH'
  try dsimp only [putL, setL, evL, getL]
  refine HL_nil ?_
  refine hK8 _ _ ?_
  refine HT_seq_k ?_
  intro K12 hK12
  refine HT_region ?_
  refine HL_cons rfl ?_
  refine o_loads' [.int .i64 p0_0, .int .i64 u9.1, .int .i64 u9.2.1, .int .i64 u9.2.2.1, .int .i64 u9.2.2.2.1, .slice A10 u9.2.2.2.2.length c10] rfl Try.underlying139 rfl tI139 rfl (hH.partv 2 rfl (0) [.int .i64 p0_0, .int .i64 u9.1, .int .i64 u9.2.1, .int .i64 u9.2.2.1, .int .i64 u9.2.2.2.1, .slice A10 u9.2.2.2.2.length c10] rfl) ?_
  try dsimp only [putL, setL, evL, getL]
  refine HL_cons rfl ?_
  refine o_stvH (vs := [.int .i64 p0_0, .int .i64 u9.1, .int .i64 u9.2.1, .int .i64 u9.2.2.1, .int .i64 u9.2.2.2.1, .slice A10 u9.2.2.2.2.length c10]) (us' := [.int .i64 p0_0, .int .i64 u9.1, .int .i64 u9.2.1, .int .i64 u9.2.2.1, .int .i64 u9.2.2.2.1, .slice A10 u9.2.2.2.2.length c10]) hH 1 rfl rfl rfl rfl rfl tI139 rfl (List.cons_ne_nil _ _) rfl rfl rfl ?_
  intro s13 hH'
  replace hH : Hp sb s F0 s13 [Ck.ov b2 [.int .i64 p0_0, .int .i64 p0_1, .int .i64 p0_2, .int .i64 p0_3, .int .i64 p0_4, .slice A0_5p p0_5.length c0_5p] 136, Ck.ov b3 [.int .i64 p0_0, .int .i64 u9.1, .int .i64 u9.2.1, .int .i64 u9.2.2.1, .int .i64 u9.2.2.2.1, .slice A10 u9.2.2.2.2.length c10] 139, Ck.ov b5 [.int .i64 p0_0, .int .i64 u9.1, .int .i64 u9.2.1, .int .i64 u9.2.2.1, .int .i64 u9.2.2.2.1, .slice A10 u9.2.2.2.2.length c10] 139, Ck.ol OI 3 A10 c10 u9.2.2.2.2] := hH'
  clear hH'
  try dsimp only [putL, setL, evL, getL]
  refine HL_nil ?_
  refine hK12 _ _ ?_
  refine HT_ret ?_
  obtain rfl := Option.some.inj (show some _ = some r from H)
  exact hQr _ _ [.agg #[.int .i64 p0_0, .int .i64 u9.1, .int .i64 u9.2.1, .int .i64 u9.2.2.1, .int .i64 u9.2.2.2.1, .slice A10 u9.2.2.2.2.length c10]] ⟨ResV.cells rfl Try.underlying139 rfl tI139 (hH.var 1 rfl) rfl, trivial⟩ ⟨A10, c10, rfl, hH.sel [3] (by decide)⟩
def laws_toSaidS.l1 (p0 : List ((Int) × ((Int) × (Int) × (Int) × (Int) × (List (Int))))) : Nat → (List ((Int) × ((Int) × (Int) × (Int) × (Int) × (List (Int))))) → Int → Option (List ((Int) × ((Int) × (Int) × (Int) × (Int) × (List (Int)))))
  | 0, _, _ => none
  | kf + 1, x57, x58 => if (decide (x58 < (p0.length : Int))) = true then ((rd? p0 x58).bind fun u77 => (laws_toSaid.f u77.1 u77.2.1 u77.2.2.1 u77.2.2.2.1 u77.2.2.2.2.1 u77.2.2.2.2.2).bind fun u79 => (rd? x57 x58).bind fun u81 => (st? x57 x58 (u79.1, (u79.2.1, u79.2.2.1, u79.2.2.2.1, u79.2.2.2.2.1, u79.2.2.2.2.2))).bind fun x83 => laws_toSaidS.l1 p0 kf x83 (IntKind.i64.wrap (x58 + 1))) else (some x57)
def laws_toSaidS.f (p0 : List ((Int) × ((Int) × (Int) × (Int) × (Int) × (List (Int))))) : Option (List ((Int) × ((Int) × (Int) × (Int) × (Int) × (List (Int))))) := (mk? 2199023255552 (0, (0, 0, 0, 0, [])) (p0.length : Int)).bind fun x3 => (laws_toSaidS.l1 p0 ((((p0.length : Int)) - (0)).toNat + 2) x3 0).bind fun (o : (List ((Int) × ((Int) × (Int) × (Int) × (Int) × (List (Int)))))) => match o with | x45 => (some x45)
def laws_toSaidS.post (sb s : St) (F0 : Fp) (r : (List ((Int) × ((Int) × (Int) × (Int) × (Int) × (List (Int)))))) : Value → St → Prop := fun v s' => ∃ (A0 : Option Addr) (c0 : Nat), v = .slice A0 r.length c0 ∧ Hp sb s F0 s' [Ck.ol OS139 139 A0 c0 r]
set_option maxRecDepth 100000 in
set_option maxHeartbeats 4000000 in
theorem laws_toSaidS.ok (sb s : St) (F0 : Fp) (A0p : Option Addr) (c0p : Nat) (p0 : List ((Int) × ((Int) × (Int) × (Int) × (Int) × (List (Int))))) (HRp0 : Rd KS136 sb A0p c0p p0) (hH : Hp sb s F0 s []) (r : (List ((Int) × ((Int) × (Int) × (Int) × (Int) × (List (Int)))))) (H : laws_toSaidS.f p0 = some r) : GCall Try.prog 58 #[.slice A0p p0.length c0p] s (laws_toSaidS.post sb s F0 r) := by
  refine GCall_ofk [.tmp 2] [.slice A0p p0.length c0p, undef, undef, undef, undef, undef, undef, undef, undef, undef, undef, undef, undef, undef, undef, undef, undef, undef, undef, undef, undef, undef, undef] Try.func58 rfl rfl rfl ?_
  intro w Q hQr hQn hQp
  replace H := topE H
  unfold laws_toSaidS.f at H
  refine HT_seq_k ?_
  intro K1 hK1
  refine HT_region ?_
  refine HL_cons rfl ?_
  refine o_assign ?_
  try dsimp only [putL, setL, evL, getL]
  refine HL_nil ?_
  refine hK1 _ _ ?_
  refine HT_seq_k ?_
  intro K2 hK2
  refine HT_region ?_
  refine HL_cons rfl ?_
  refine o_move ?_
  try dsimp only [putL, setL, evL, getL]
  refine HL_cons rfl ?_
  refine o_len rfl Try.underlying72 ?_
  try dsimp only [putL, setL, evL, getL]
  obtain ⟨x3, hx3, H⟩ := headE H
  refine HL_cons rfl ?_
  refine o_makeH (K := KS139) (O := OS139) (x0 := (0, (0, 0, 0, 0, []))) hH rfl Try.underlying77 tI139 rfl (by decide) (by decide) (by decide) (Own0.pair (v1 := [.int .i64 0]) (v2 := [.int .i64 0, .int .i64 0, .int .i64 0, .int .i64 0, .slice none 0 0]) (x1 := 0) (x2 := (0, (0, (0, (0, []))))) (Own0.fl fun _ => rfl) (Own0.pair (v1 := [.int .i64 0]) (v2 := [.int .i64 0, .int .i64 0, .int .i64 0, .slice none 0 0]) (x1 := 0) (x2 := (0, (0, (0, [])))) (Own0.fl fun _ => rfl) (Own0.pair (v1 := [.int .i64 0]) (v2 := [.int .i64 0, .int .i64 0, .slice none 0 0]) (x1 := 0) (x2 := (0, (0, []))) (Own0.fl fun _ => rfl) (Own0.pair (v1 := [.int .i64 0]) (v2 := [.int .i64 0, .slice none 0 0]) (x1 := 0) (x2 := (0, [])) (Own0.fl fun _ => rfl) (Own0.pair (v1 := [.int .i64 0]) (v2 := [.slice none 0 0]) (x1 := 0) (x2 := []) (Own0.fl fun _ => rfl) Own0.nil))))) hx3 ?_
  intro A3 c3 s3 hH' hG
  replace hH : Hp sb s F0 s3 [Ck.ol OS139 139 A3 c3 x3] := hH'
  clear hH' hG
  try dsimp only [putL, setL, evL, getL]
  refine HL_cons rfl ?_
  refine o_assign ?_
  try dsimp only [putL, setL, evL, getL]
  refine HL_nil ?_
  refine hK2 _ _ ?_
  refine HT_seq_k ?_
  intro K4 hK4
  refine HT_seq_k ?_
  intro K5 hK5
  refine HT_region ?_
  refine HL_cons rfl ?_
  refine o_assign ?_
  try dsimp only [putL, setL, evL, getL]
  refine HL_nil ?_
  refine hK5 _ _ ?_
  refine joinH H fun G6 hG6 H => ?_
  refine HT_toK (fun l' s' => ∃ (x45 : List ((Int) × ((Int) × (Int) × (Int) × (Int) × (List (Int))))), G6 x45 = some r ∧ l' = [.slice A0p p0.length c0p, undef, .slice none 0 0, .slice A3 x3.length c3, getL l' 4, .slice A0p p0.length c0p, .int .i64 (p0.length : Int), .slice A3 x3.length c3, getL l' 8, getL l' 9, getL l' 10, getL l' 11, getL l' 12, getL l' 13, getL l' 14, getL l' 15, getL l' 16, getL l' 17, getL l' 18, getL l' 19, getL l' 20, getL l' 21, undef] ∧ Hp sb s F0 s' [Ck.ol OS139 139 A3 c3 x45] ∧ x45.length = x3.length) ?_ ?_
  · intro K6 hK6
    refine HT_block ?_
    refine HT_loopK (fun kf l' s' => ∃ (x57 : List ((Int) × ((Int) × (Int) × (Int) × (Int) × (List (Int))))) (x58 : Int), (laws_toSaidS.l1 p0 kf x57 x58).bind G6 = some r ∧ l' = [.slice A0p p0.length c0p, undef, .slice none 0 0, .slice A3 x3.length c3, .int .i64 x58, .slice A0p p0.length c0p, .int .i64 (p0.length : Int), .slice A3 x3.length c3, getL l' 8, getL l' 9, getL l' 10, getL l' 11, getL l' 12, getL l' 13, getL l' 14, getL l' 15, getL l' 16, getL l' 17, getL l' 18, getL l' 19, getL l' 20, getL l' 21, undef] ∧ Hp sb s F0 s' [Ck.ol OS139 139 A3 c3 x57] ∧ x57.length = x3.length) ((((p0.length : Int)) - (0)).toNat + 2) ⟨x3, 0, H, rfl, hH, rfl⟩ ?_
    rintro kf l' s72 ⟨x57, x58, H, hl, hH, hl57⟩ K72 hK72
    generalize getL l' 8 = j8, getL l' 9 = j9, getL l' 10 = j10, getL l' 11 = j11, getL l' 12 = j12, getL l' 13 = j13, getL l' 14 = j14, getL l' 15 = j15, getL l' 16 = j16, getL l' 17 = j17, getL l' 18 = j18, getL l' 19 = j19, getL l' 20 = j20, getL l' 21 = j21 at hl
    subst hl
    cases kf with
    | zero => simp [laws_toSaidS.l1] at H
    | succ kf =>
      rw [laws_toSaidS.l1] at H
      refine HT_seq_k ?_
      intro K73 hK73
      refine HT_seq_k ?_
      intro K74 hK74
      refine HT_region ?_
      refine HL_cons rfl ?_
      refine o_move ?_
      try dsimp only [putL, setL, evL, getL]
      refine HL_cons rfl ?_
      refine o_move ?_
      try dsimp only [putL, setL, evL, getL]
      refine HL_cons rfl ?_
      refine o_len rfl Try.underlying72 ?_
      try dsimp only [putL, setL, evL, getL]
      refine HL_cons rfl ?_
      refine o_bin rfl rfl rfl ?_
      try dsimp only [putL, setL, evL, getL]
      refine HL_nil ?_
      refine hK74 _ _ ?_
      rcases Bool.eq_false_or_eq_true (decide (x58 < (p0.length : Int))) with hb75 | hb75
      · replace H := iteT hb75 H
        refine HT_true (congrArg Value.bool hb75) ?_
        refine HT_skip ?_
        refine hK73 _ _ ?_
        refine HT_seq_k ?_
        intro K76 hK76
        refine HT_block ?_
        refine HT_region ?_
        refine HL_cons rfl ?_
        refine o_move ?_
        try dsimp only [putL, setL, evL, getL]
        refine HL_cons rfl ?_
        refine o_move ?_
        try dsimp only [putL, setL, evL, getL]
        refine HL_cons rfl ?_
        refine o_move ?_
        try dsimp only [putL, setL, evL, getL]
        refine HL_cons rfl ?_
        refine o_move ?_
        try dsimp only [putL, setL, evL, getL]
        obtain ⟨u77, hu77, H⟩ := headE H
        obtain ⟨b77, o77, cs77, hr77, hh77, hel77⟩ := Rd.elb HRp0 hu77
        obtain ⟨_, _, rfl, rfl, ⟨_, _, rfl, rfl, ⟨_, _, rfl, rfl, ⟨_, _, rfl, rfl, ⟨_, _, rfl, rfl, ⟨A78, c78, rfl, D78⟩⟩⟩⟩⟩⟩ := hr77
        refine HL_cons rfl ?_
        refine hel77 s72 rfl rfl Try.underlying72 tI136 ?_
        try dsimp only [putL, setL, evL, getL]
        refine HL_cons rfl ?_
        refine o_loads' [.int .i64 u77.1, .int .i64 u77.2.1, .int .i64 u77.2.2.1, .int .i64 u77.2.2.2.1, .int .i64 u77.2.2.2.2.1, .slice A78 u77.2.2.2.2.2.length c78] rfl Try.underlying136 rfl tI136 rfl (fun j v hj => (hh77 hH.bs.mono) j v hj) ?_
        try dsimp only [putL, setL, evL, getL]
        obtain ⟨u79, hu79, H⟩ := headE H
        refine HL_cons rfl ?_
        refine o_call (args := #[.agg #[.int .i64 u77.1, .int .i64 u77.2.1, .int .i64 u77.2.2.1, .int .i64 u77.2.2.2.1, .int .i64 u77.2.2.2.2.1, .slice A78 u77.2.2.2.2.2.length c78]]) Try.func125 rfl rfl rfl (laws_toSaid.ok sb s72 no u77.1 u77.2.1 u77.2.2.1 u77.2.2.2.1 u77.2.2.2.2.1 A78 c78 u77.2.2.2.2.2 D78 (Hp.own hH.bs) _ hu79) ?_
        rintro _ s79 ⟨A80, c80, rfl, hD⟩
        replace hH := hH.back0 hD (Up.refl _ _ _)
        clear hD
        dsimp only [addC, setC, rmC, selC, getC] at hH
        try dsimp only [putL, setL, evL, getL]
        obtain ⟨u81, hu81, H⟩ := headE H
        obtain ⟨b81, o81, cs81, hA81, hr81, hh81, hel81⟩ := hH.elo 0 rfl hu81
        obtain ⟨_, _, rfl, rfl, ⟨_, _, rfl, rfl, ⟨_, _, rfl, rfl, ⟨_, _, rfl, rfl, ⟨_, _, rfl, rfl, ⟨A82, c82, rfl, D82⟩⟩⟩⟩⟩⟩ := hr81
        refine HL_cons rfl ?_
        refine hel81 s79 (sliceLen hl57) rfl Try.underlying77 tI139 ?_
        try dsimp only [putL, setL, evL, getL]
        replace hH := hH.conv [1] (by decide) (d := Ck.el OS139 [.int .i64 u79.1, .int .i64 u79.2.1, .int .i64 u79.2.2.1, .int .i64 u79.2.2.2.1, .int .i64 u79.2.2.2.2.1, .slice A80 u79.2.2.2.2.2.length c80] (u79.1, (u79.2.1, u79.2.2.1, u79.2.2.2.1, u79.2.2.2.2.1, u79.2.2.2.2.2))) (Ent.pair (v1 := [.int .i64 u79.1]) (v2 := [.int .i64 u79.2.1, .int .i64 u79.2.2.1, .int .i64 u79.2.2.2.1, .int .i64 u79.2.2.2.2.1, .slice A80 u79.2.2.2.2.2.length c80]) (x1 := u79.1) (x2 := (u79.2.1, (u79.2.2.1, (u79.2.2.2.1, (u79.2.2.2.2.1, u79.2.2.2.2.2))))) (Ent.flat rfl) (Ent.pair (v1 := [.int .i64 u79.2.1]) (v2 := [.int .i64 u79.2.2.1, .int .i64 u79.2.2.2.1, .int .i64 u79.2.2.2.2.1, .slice A80 u79.2.2.2.2.2.length c80]) (x1 := u79.2.1) (x2 := (u79.2.2.1, (u79.2.2.2.1, (u79.2.2.2.2.1, u79.2.2.2.2.2)))) (Ent.flat rfl) (Ent.pair (v1 := [.int .i64 u79.2.2.1]) (v2 := [.int .i64 u79.2.2.2.1, .int .i64 u79.2.2.2.2.1, .slice A80 u79.2.2.2.2.2.length c80]) (x1 := u79.2.2.1) (x2 := (u79.2.2.2.1, (u79.2.2.2.2.1, u79.2.2.2.2.2))) (Ent.flat rfl) (Ent.pair (v1 := [.int .i64 u79.2.2.2.1]) (v2 := [.int .i64 u79.2.2.2.2.1, .slice A80 u79.2.2.2.2.2.length c80]) (x1 := u79.2.2.2.1) (x2 := (u79.2.2.2.2.1, u79.2.2.2.2.2)) (Ent.flat rfl) (Ent.pair (v1 := [.int .i64 u79.2.2.2.2.1]) (v2 := [.slice A80 u79.2.2.2.2.2.length c80]) (x1 := u79.2.2.2.2.1) (x2 := u79.2.2.2.2.2) (Ent.flat rfl) Ent.sl)))))
        dsimp only [addC, setC, rmC, selC, getC] at hH
        obtain ⟨x83, hx83, H⟩ := headE H
        refine HL_cons rfl ?_
        refine o_setD (u := (u79.1, (u79.2.1, u79.2.2.1, u79.2.2.2.1, u79.2.2.2.2.1, u79.2.2.2.2.2))) hH 0 2 (by decide) rfl rfl rfl rfl rfl rfl tI139 hA81 hx83 ?_
        intro s83 hH'
        have hl83 := (st?_len hx83).trans hl57
        replace hH : Hp sb s F0 s83 [Ck.ol OS139 139 A3 c3 x83, Ck.emp, Ck.emp] := hH'
        clear hH'
        try dsimp only [putL, setL, evL, getL]
        refine HL_nil ?_
        refine hK76 _ _ ?_
        refine HT_region ?_
        refine HL_cons rfl ?_
        refine o_move ?_
        try dsimp only [putL, setL, evL, getL]
        refine HL_cons rfl ?_
        refine o_bin rfl rfl rfl ?_
        try dsimp only [putL, setL, evL, getL]
        refine HL_cons rfl ?_
        refine o_assign ?_
        try dsimp only [putL, setL, evL, getL]
        refine HL_nil ?_
        exact hK72 _ _ ⟨kf, Nat.lt_succ_self kf, x83, IntKind.i64.wrap (x58 + 1), H, rfl, hH.sel [0] (by decide), hl83⟩
      · replace H := iteF hb75 H
        refine HT_false (congrArg Value.bool hb75) ?_
        refine HT_exit ?_
        exact hK6 _ _ ⟨x57, H, rfl, hH, hl57⟩
  · rintro l' s84 ⟨x45, H, hl, hH, hl45⟩
    generalize getL l' 4 = j4, getL l' 8 = j8, getL l' 9 = j9, getL l' 10 = j10, getL l' 11 = j11, getL l' 12 = j12, getL l' 13 = j13, getL l' 14 = j14, getL l' 15 = j15, getL l' 16 = j16, getL l' 17 = j17, getL l' 18 = j18, getL l' 19 = j19, getL l' 20 = j20, getL l' 21 = j21 at hl
    subst hl
    replace H := hG6 _ H
    try dsimp only at H
    refine hK4 _ _ ?_
    refine HT_seq_k ?_
    intro K85 hK85
    refine HT_region ?_
    refine HL_cons rfl ?_
    refine o_move ?_
    try dsimp only [putL, setL, evL, getL]
    refine HL_cons rfl ?_
    refine o_assign ?_
    try dsimp only [putL, setL, evL, getL]
    refine HL_nil ?_
    refine hK85 _ _ ?_
    refine HT_ret ?_
    obtain rfl := Option.some.inj (show some _ = some r from H)
    exact hQr _ _ [.slice A3 x3.length c3] ⟨rfl, trivial⟩ ⟨A3, c3, (by rw [hl45]; first | done | rfl), hH⟩
def spec_l1In.f (p0 : Int) (p1 : Int) (p2 : Int) : Option Bool := if (decide (p0 ≥ p1)) = true then (some (decide (p0 ≤ p2))) else (some false)
def spec_l1In.post (sb s : St) (F0 : Fp) (r : Bool) : Value → St → Prop := fun v s' => v = .bool r ∧ Hp sb s F0 s' []
set_option maxRecDepth 100000 in
set_option maxHeartbeats 4000000 in
theorem spec_l1In.ok (sb s : St) (F0 : Fp) (p0 : Int) (p1 : Int) (p2 : Int) (hH : Hp sb s F0 s []) (r : Bool) (H : spec_l1In.f p0 p1 p2 = some r) : GCall Try.prog 84 #[.int .i64 p0, .int .i64 p1, .int .i64 p2] s (spec_l1In.post sb s F0 r) := by
  refine GCall_ofk [.tmp 6] [.int .i64 p0, .int .i64 p1, .int .i64 p2, undef, undef, undef, undef, undef, undef, undef, undef, undef, undef, undef, undef] Try.func84 rfl rfl rfl ?_
  intro w Q hQr hQn hQp
  replace H := topE H
  unfold spec_l1In.f at H
  refine HT_seq_k ?_
  intro K1 hK1
  refine HT_region ?_
  refine HL_cons rfl ?_
  refine o_assign ?_
  try dsimp only [putL, setL, evL, getL]
  refine HL_nil ?_
  refine hK1 _ _ ?_
  refine HT_seq_k ?_
  intro K2 hK2
  refine HT_region ?_
  refine HL_cons rfl ?_
  refine o_move ?_
  try dsimp only [putL, setL, evL, getL]
  refine HL_cons rfl ?_
  refine o_move ?_
  try dsimp only [putL, setL, evL, getL]
  refine HL_cons rfl ?_
  refine o_bin rfl rfl rfl ?_
  try dsimp only [putL, setL, evL, getL]
  refine HL_cons rfl ?_
  refine o_move ?_
  try dsimp only [putL, setL, evL, getL]
  rcases Bool.eq_false_or_eq_true (decide (p0 ≥ p1)) with hb3 | hb3
  · replace H := iteT hb3 H
    refine HL_want ?_ ?_
    · exact wantT (j := 3) (b := true) (t := 10) (c := decide (p0 ≥ p1)) rfl rfl rfl rfl hb3
    refine o_move ?_
    try dsimp only [putL, setL, evL, getL]
    refine HL_want ?_ ?_
    · exact wantT (j := 3) (b := true) (t := 10) (c := decide (p0 ≥ p1)) rfl rfl rfl rfl hb3
    refine o_move ?_
    try dsimp only [putL, setL, evL, getL]
    refine HL_want ?_ ?_
    · exact wantT (j := 3) (b := true) (t := 10) (c := decide (p0 ≥ p1)) rfl rfl rfl rfl hb3
    refine o_bin rfl rfl rfl ?_
    try dsimp only [putL, setL, evL, getL]
    refine HL_cons rfl ?_
    refine o_pickT rfl hb3 ?_
    try dsimp only [putL, setL, evL, getL]
    refine HL_cons rfl ?_
    refine o_assign ?_
    try dsimp only [putL, setL, evL, getL]
    refine HL_nil ?_
    refine hK2 _ _ ?_
    refine HT_ret ?_
    obtain rfl := Option.some.inj (show some _ = some r from H)
    exact hQr _ _ [.bool (decide (p0 ≤ p2))] ⟨rfl, trivial⟩ ⟨rfl, hH⟩
  · replace H := iteF hb3 H
    refine HL_skip ?_ ?_
    · exact wantF (j := 3) (b := true) (t := 10) (c := decide (p0 ≥ p1)) rfl rfl rfl rfl hb3
    try dsimp only [putL, setL, evL, getL]
    refine HL_skip ?_ ?_
    · exact wantF (j := 3) (b := true) (t := 10) (c := decide (p0 ≥ p1)) rfl rfl rfl rfl hb3
    try dsimp only [putL, setL, evL, getL]
    refine HL_skip ?_ ?_
    · exact wantF (j := 3) (b := true) (t := 10) (c := decide (p0 ≥ p1)) rfl rfl rfl rfl hb3
    try dsimp only [putL, setL, evL, getL]
    refine HL_cons rfl ?_
    refine o_pickF rfl hb3 ?_
    try dsimp only [putL, setL, evL, getL]
    refine HL_cons rfl ?_
    refine o_assign ?_
    try dsimp only [putL, setL, evL, getL]
    refine HL_nil ?_
    refine hK2 _ _ ?_
    refine HT_ret ?_
    obtain rfl := Option.some.inj (show some _ = some r from H)
    exact hQr _ _ [.bool false] ⟨rfl, trivial⟩ ⟨rfl, hH⟩
def spec_l1Own.f (p0 : List (Int)) : Option (List (Int)) := (app? 17592186044416 ([] : List (Int)) p0).bind fun x4 => some x4
def spec_l1Own.post (sb s : St) (F0 : Fp) (r : (List (Int))) : Value → St → Prop := fun v s' => ∃ (A0 : Option Addr) (c0 : Nat), v = .slice A0 r.length c0 ∧ Hp sb s F0 s' [Ck.ol OI 3 A0 c0 r]
set_option maxRecDepth 100000 in
set_option maxHeartbeats 4000000 in
theorem spec_l1Own.ok (sb s : St) (F0 : Fp) (A0p : Option Addr) (c0p : Nat) (p0 : List (Int)) (HRp0 : Rd KI sb A0p c0p p0) (hH : Hp sb s F0 s []) (r : (List (Int))) (H : spec_l1Own.f p0 = some r) : GCall Try.prog 91 #[.slice A0p p0.length c0p] s (spec_l1Own.post sb s F0 r) := by
  refine GCall_ofk [.tmp 2] [.slice A0p p0.length c0p, undef, undef, undef, undef, undef] Try.func91 rfl rfl rfl ?_
  intro w Q hQr hQn hQp
  replace H := topE H
  unfold spec_l1Own.f at H
  refine HT_seq_k ?_
  intro K1 hK1
  refine HT_region ?_
  refine HL_cons rfl ?_
  refine o_assign ?_
  try dsimp only [putL, setL, evL, getL]
  refine HL_nil ?_
  refine hK1 _ _ ?_
  refine HT_seq_k ?_
  intro K2 hK2
  refine HT_region ?_
  refine HL_cons rfl ?_
  refine o_lit0H (α := Int) (K := KI) (O := OI) hH Try.underlying22 tI3 ?_
  intro A3 s3 hH' hG
  replace hH : Hp sb s F0 s3 [Ck.ol OI 3 A3 0 ([] : List (Int))] := hH'
  clear hH' hG
  try dsimp only [putL, setL, evL, getL]
  refine HL_cons rfl ?_
  refine o_move ?_
  try dsimp only [putL, setL, evL, getL]
  obtain ⟨x4, hx4, H⟩ := headE H
  refine HL_cons rfl ?_
  refine o_appF (K := KI) (n := 17592186044416) (A := A3) (c := 0) (xs := ([] : List (Int))) (ys := p0) (B := A0p) (c2 := c0p) hH 0 rfl rfl rfl rfl Try.underlying22 tI3 rfl (by decide) (by decide) (by decide) (Src.flat (HRp0.mono hH.bs.mono)) hx4 ?_
  intro A4 c4 s4 hH'
  replace hH : Hp sb s F0 s4 [Ck.ol OI 3 A4 c4 x4] := hH'
  clear hH'
  try dsimp only [putL, setL, evL, getL]
  refine HL_cons rfl ?_
  refine o_assign ?_
  try dsimp only [putL, setL, evL, getL]
  refine HL_nil ?_
  refine hK2 _ _ ?_
  refine HT_ret ?_
  obtain rfl := Option.some.inj (show some _ = some r from H)
  exact hQr _ _ [.slice A4 x4.length c4] ⟨rfl, trivial⟩ ⟨A4, c4, rfl, hH⟩
def spec_l17Event.f (p0_0 : Int) (p0_1 : Int) (p0_2 : Int) (p0_3 : Int) (p0_4 : List (Int)) : Option (Int × Int × Int × Int × (List (Int))) := (spec_l1Own.f p0_4).bind fun u5 => some (p0_0, p0_1, p0_2, p0_3, u5)
def spec_l17Event.post (sb s : St) (F0 : Fp) (r : Int × Int × Int × Int × (List (Int))) : Value → St → Prop := fun v s' => ∃ (A4 : Option Addr) (c4 : Nat), v = .agg #[.int .i64 r.1, .int .i64 r.2.1, .int .i64 r.2.2.1, .int .i64 r.2.2.2.1, .slice A4 r.2.2.2.2.length c4] ∧ Hp sb s F0 s' [Ck.ol OI 3 A4 c4 r.2.2.2.2]
set_option maxRecDepth 100000 in
set_option maxHeartbeats 4000000 in
theorem spec_l17Event.ok (sb s : St) (F0 : Fp) (p0_0 : Int) (p0_1 : Int) (p0_2 : Int) (p0_3 : Int) (A0_4p : Option Addr) (c0_4p : Nat) (p0_4 : List (Int)) (HRp0_4 : Rd KI sb A0_4p c0_4p p0_4) (hH : Hp sb s F0 s []) (r : Int × Int × Int × Int × (List (Int))) (H : spec_l17Event.f p0_0 p0_1 p0_2 p0_3 p0_4 = some r) : GCall Try.prog 124 #[.agg #[.int .i64 p0_0, .int .i64 p0_1, .int .i64 p0_2, .int .i64 p0_3, .slice A0_4p p0_4.length c0_4p]] s (spec_l17Event.post sb s F0 r) := by
  refine GCall_ofk [.cell 2 137] [.agg #[.int .i64 p0_0, .int .i64 p0_1, .int .i64 p0_2, .int .i64 p0_3, .slice A0_4p p0_4.length c0_4p], undef, undef, undef, undef, undef, undef, undef] Try.func124 rfl rfl rfl ?_
  intro w Q hQr hQn hQp
  replace H := topE H
  unfold spec_l17Event.f at H
  refine HT_seq_k ?_
  intro K1 hK1
  refine HT_region ?_
  refine HL_cons rfl ?_
  refine o_boxH hH rfl ?_
  intro b2 s2 hH' hG
  replace hH : Hp sb s F0 s2 [Ck.ov b2 [.int .i64 p0_0, .int .i64 p0_1, .int .i64 p0_2, .int .i64 p0_3, .slice A0_4p p0_4.length c0_4p] 137] := hH'
  clear hH' hG
  try dsimp only [putL, setL, evL, getL]
  refine HL_cons rfl ?_
  refine o_allocH hH tI137 ?_
  intro b3 s3 hH' hG
  replace hH : Hp sb s F0 s3 [Ck.ov b2 [.int .i64 p0_0, .int .i64 p0_1, .int .i64 p0_2, .int .i64 p0_3, .slice A0_4p p0_4.length c0_4p] 137, Ck.ov b3 [.int .i64 0, .int .i64 0, .int .i64 0, .int .i64 0, .slice none 0 0] 137] := hH'
  clear hH' hG
  try dsimp only [putL, setL, evL, getL]
  refine HL_nil ?_
  refine hK1 _ _ ?_
  refine HT_seq_k ?_
  intro K4 hK4
  refine HT_region ?_
  refine HL_cons rfl ?_
  refine o_faddr' (ft := 22) (off := 4) rfl Try.underlying137 rfl tI22 (by decide) ?_
  try dsimp only [putL, setL, evL, getL]
  refine HL_cons rfl ?_
  refine o_load' rfl Try.underlying22 rfl (hH.hasv 0 rfl rfl) ?_
  try dsimp only [putL, setL, evL, getL]
  obtain ⟨u5, hu5, H⟩ := headE H
  refine HL_cons rfl ?_
  refine o_call (args := #[.slice A0_4p p0_4.length c0_4p]) Try.func91 rfl rfl rfl (spec_l1Own.ok sb s3 no A0_4p c0_4p p0_4 HRp0_4 (Hp.own hH.bs) _ hu5) ?_
  rintro _ s5 ⟨A6, c6, rfl, hD⟩
  replace hH := hH.back0 hD (Up.refl _ _ _)
  clear hD
  dsimp only [addC, setC, rmC, selC, getC] at hH
  try dsimp only [putL, setL, evL, getL]
  refine HL_cons rfl ?_
  refine o_faddr' (ft := 22) (off := 4) rfl Try.underlying137 rfl tI22 (by decide) ?_
  try dsimp only [putL, setL, evL, getL]
  refine HL_cons rfl ?_
  refine o_stvH (vs := [.slice A6 u5.length c6]) (us' := [.int .i64 p0_0, .int .i64 p0_1, .int .i64 p0_2, .int .i64 p0_3, .slice A6 u5.length c6]) hH 0 rfl rfl rfl rfl rfl tI22 rfl (List.cons_ne_nil _ _) rfl rfl rfl ?_
  intro s7 hH'
  replace hH : Hp sb s F0 s7 [Ck.ov b2 [.int .i64 p0_0, .int .i64 p0_1, .int .i64 p0_2, .int .i64 p0_3, .slice A6 u5.length c6] 137, Ck.ov b3 [.int .i64 0, .int .i64 0, .int .i64 0, .int .i64 0, .slice none 0 0] 137, Ck.ol OI 3 A6 c6 u5] := hH'
  clear hH'
  try dsimp only [putL, setL, evL, getL]
  refine HL_nil ?_
  refine hK4 _ _ ?_
  refine HT_seq_k ?_
  intro K8 hK8
  refine HT_region ?_
  refine HL_cons rfl ?_
  refine o_loads' [.int .i64 p0_0, .int .i64 p0_1, .int .i64 p0_2, .int .i64 p0_3, .slice A6 u5.length c6] rfl Try.underlying137 rfl tI137 rfl (hH.partv 0 rfl (0) [.int .i64 p0_0, .int .i64 p0_1, .int .i64 p0_2, .int .i64 p0_3, .slice A6 u5.length c6] rfl) ?_
  try dsimp only [putL, setL, evL, getL]
  refine HL_cons rfl ?_
  refine o_stvH (vs := [.int .i64 p0_0, .int .i64 p0_1, .int .i64 p0_2, .int .i64 p0_3, .slice A6 u5.length c6]) (us' := [.int .i64 p0_0, .int .i64 p0_1, .int .i64 p0_2, .int .i64 p0_3, .slice A6 u5.length c6]) hH 1 rfl rfl rfl rfl rfl tI137 rfl (List.cons_ne_nil _ _) rfl rfl rfl ?_
  intro s9 hH'
  replace hH : Hp sb s F0 s9 [Ck.ov b2 [.int .i64 p0_0, .int .i64 p0_1, .int .i64 p0_2, .int .i64 p0_3, .slice A6 u5.length c6] 137, Ck.ov b3 [.int .i64 p0_0, .int .i64 p0_1, .int .i64 p0_2, .int .i64 p0_3, .slice A6 u5.length c6] 137, Ck.ol OI 3 A6 c6 u5] := hH'
  clear hH'
  try dsimp only [putL, setL, evL, getL]
  refine HL_nil ?_
  refine hK8 _ _ ?_
  refine HT_ret ?_
  obtain rfl := Option.some.inj (show some _ = some r from H)
  exact hQr _ _ [.agg #[.int .i64 p0_0, .int .i64 p0_1, .int .i64 p0_2, .int .i64 p0_3, .slice A6 u5.length c6]] ⟨ResV.cells rfl Try.underlying137 rfl tI137 (hH.var 1 rfl) rfl, trivial⟩ ⟨A6, c6, rfl, hH.sel [2] (by decide)⟩
def spec_LogOf.l1 (p0 : List ((Int) × ((Int) × (Int) × (Int) × (Int) × (List (Int))))) (p1 : Int) : Nat → (List ((Int) × (Int) × (Int) × (Int) × (List (Int)))) → Int → Option (List ((Int) × (Int) × (Int) × (Int) × (List (Int))))
  | 0, _, _ => none
  | kf + 1, x148, x149 => if (decide (x149 < (p0.length : Int))) = true then (((rd? p0 x149).bind fun u198 => if (u198.1 == p1) = true then ((spec_l17Event.f u198.2.1 u198.2.2.1 u198.2.2.2.1 u198.2.2.2.2.1 u198.2.2.2.2.2).bind fun u204 => (app? 2513169434916 x148 [(u204.1, u204.2.1, u204.2.2.1, u204.2.2.2.1, u204.2.2.2.2)]).bind fun x207 => some x207) else (some x148)).bind fun (o : (List ((Int) × (Int) × (Int) × (Int) × (List (Int))))) => match o with | x196 => (spec_LogOf.l1 p0 p1 kf x196 (IntKind.i64.wrap (x149 + 1)))) else (some x148)
def spec_LogOf.f (p0 : List ((Int) × ((Int) × (Int) × (Int) × (Int) × (List (Int))))) (p1 : Int) : Option ((List ((Int) × (Int) × (Int) × (Int) × (List (Int)))) × Bool) := (if (decide ((p0.length : Int) > 2000)) = true then (some true) else ((spec_l1In.f p1 0 3).bind fun u18 => some (!u18))).bind fun (o : Bool) => match o with | x16 => (if x16 = true then (some ([], false)) else ((spec_LogOf.l1 p0 p1 ((((p0.length : Int)) - (0)).toNat + 2) [] 0).bind fun (o : (List ((Int) × (Int) × (Int) × (Int) × (List (Int))))) => match o with | x117 => (some (x117, true))))
def spec_LogOf.post (sb s : St) (F0 : Fp) (r : (List ((Int) × (Int) × (Int) × (Int) × (List (Int)))) × Bool) : Value → St → Prop := fun v s' => ∃ (A0 : Option Addr) (c0 : Nat), v = .tuple #[.slice A0 r.1.length c0, .bool r.2] ∧ Hp sb s F0 s' [Ck.ol OS137 137 A0 c0 r.1]
set_option maxRecDepth 100000 in
set_option maxHeartbeats 4000000 in
theorem spec_LogOf.ok (sb s : St) (F0 : Fp) (A0p : Option Addr) (c0p : Nat) (p0 : List ((Int) × ((Int) × (Int) × (Int) × (Int) × (List (Int))))) (p1 : Int) (HRp0 : Rd KS139 sb A0p c0p p0) (hH : Hp sb s F0 s []) (r : (List ((Int) × (Int) × (Int) × (Int) × (List (Int)))) × Bool) (H : spec_LogOf.f p0 p1 = some r) : GCall Try.prog 57 #[.slice A0p p0.length c0p, .int .i64 p1] s (spec_LogOf.post sb s F0 r) := by
  refine GCall_ofk [.tmp 4, .tmp 5] [.slice A0p p0.length c0p, .int .i64 p1, undef, undef, undef, undef, undef, undef, undef, undef, undef, undef, undef, undef, undef, undef, undef, undef, undef, undef, undef, undef, undef, undef, undef, undef, undef, undef, undef, undef, undef, undef, undef, undef, undef] Try.func57 rfl rfl rfl ?_
  intro w Q hQr hQn hQp
  replace H := topE H
  unfold spec_LogOf.f at H
  refine HT_seq_k ?_
  intro K1 hK1
  refine HT_region ?_
  refine HL_cons rfl ?_
  refine o_assign ?_
  try dsimp only [putL, setL, evL, getL]
  refine HL_cons rfl ?_
  refine o_assign ?_
  try dsimp only [putL, setL, evL, getL]
  refine HL_nil ?_
  refine hK1 _ _ ?_
  refine HT_seq_k ?_
  intro K12 hK12
  refine joinH H fun G13 hG13 H => ?_
  refine HT_joinK (fun l' s' => ∃ (x16 : Bool), G13 x16 = some r ∧ l' = [.slice A0p p0.length c0p, .int .i64 p1, undef, undef, .slice none 0 0, .bool false, undef, undef, undef, getL l' 9, getL l' 10, getL l' 11, getL l' 12, getL l' 13, getL l' 14, getL l' 15, .bool x16, undef, undef, undef, undef, undef, undef, undef, undef, undef, undef, undef, undef, undef, undef, undef, undef, undef, undef] ∧ Hp sb s F0 s' []) ?_ ?_
  · intro K13 hK13
    refine HT_region ?_
    refine HL_cons rfl ?_
    refine o_move ?_
    try dsimp only [putL, setL, evL, getL]
    refine HL_cons rfl ?_
    refine o_len rfl Try.underlying77 ?_
    try dsimp only [putL, setL, evL, getL]
    refine HL_cons rfl ?_
    refine o_bin rfl rfl rfl ?_
    try dsimp only [putL, setL, evL, getL]
    refine HL_cons rfl ?_
    refine o_move ?_
    try dsimp only [putL, setL, evL, getL]
    rcases Bool.eq_false_or_eq_true (decide ((p0.length : Int) > 2000)) with hb17 | hb17
    · replace H := iteT hb17 H
      refine HL_skip ?_ ?_
      · exact wantF (j := 3) (b := false) (t := 12) (c := decide ((p0.length : Int) > 2000)) rfl rfl rfl rfl hb17
      try dsimp only [putL, setL, evL, getL]
      refine HL_skip ?_ ?_
      · exact wantF (j := 3) (b := false) (t := 12) (c := decide ((p0.length : Int) > 2000)) rfl rfl rfl rfl hb17
      try dsimp only [putL, setL, evL, getL]
      refine HL_skip ?_ ?_
      · exact wantF (j := 3) (b := false) (t := 12) (c := decide ((p0.length : Int) > 2000)) rfl rfl rfl rfl hb17
      try dsimp only [putL, setL, evL, getL]
      refine HL_cons rfl ?_
      refine o_pickT rfl hb17 ?_
      try dsimp only [putL, setL, evL, getL]
      refine HL_nil ?_
      exact hK13 _ _ ⟨true, H, rfl, hH⟩
    · replace H := iteF hb17 H
      refine HL_want ?_ ?_
      · exact wantT (j := 3) (b := false) (t := 12) (c := decide ((p0.length : Int) > 2000)) rfl rfl rfl rfl hb17
      refine o_move ?_
      try dsimp only [putL, setL, evL, getL]
      obtain ⟨u18, hu18, H⟩ := headE H
      refine HL_want ?_ ?_
      · exact wantT (j := 3) (b := false) (t := 12) (c := decide ((p0.length : Int) > 2000)) rfl rfl rfl rfl hb17
      refine o_call (args := #[.int .i64 p1, .int .i64 0, .int .i64 3]) Try.func84 rfl rfl rfl (spec_l1In.ok sb s no p1 0 3 (Hp.own hH.bs) _ hu18) ?_
      rintro _ s18 ⟨rfl, hD⟩
      replace hH := hH.back0 hD (Up.refl _ _ _)
      clear hD
      dsimp only [addC, setC, rmC, selC, getC] at hH
      try dsimp only [putL, setL, evL, getL]
      refine HL_want ?_ ?_
      · exact wantT (j := 3) (b := false) (t := 12) (c := decide ((p0.length : Int) > 2000)) rfl rfl rfl rfl hb17
      refine o_not rfl ?_
      try dsimp only [putL, setL, evL, getL]
      refine HL_cons rfl ?_
      refine o_pickF rfl hb17 ?_
      try dsimp only [putL, setL, evL, getL]
      refine HL_nil ?_
      exact hK13 _ _ ⟨!u18, H, rfl, hH⟩
  · rintro l' s19 ⟨x16, H, hl, hH⟩
    generalize getL l' 9 = j9, getL l' 10 = j10, getL l' 11 = j11, getL l' 12 = j12, getL l' 13 = j13, getL l' 14 = j14, getL l' 15 = j15 at hl
    subst hl
    replace H := hG13 _ H
    try dsimp only at H
    rcases Bool.eq_false_or_eq_true x16 with hb20 | hb20
    · replace H := iteT hb20 H
      refine HT_true (congrArg Value.bool hb20) ?_
      refine HT_seq_k ?_
      intro K21 hK21
      refine HT_region ?_
      refine HL_cons rfl ?_
      refine o_assign ?_
      try dsimp only [putL, setL, evL, getL]
      refine HL_cons rfl ?_
      refine o_assign ?_
      try dsimp only [putL, setL, evL, getL]
      refine HL_nil ?_
      refine hK21 _ _ ?_
      refine HT_ret ?_
      obtain rfl := Option.some.inj (show some _ = some r from H)
      exact hQr _ _ [.slice none 0 0, .bool false] ⟨rfl, rfl, trivial⟩ ⟨none, 0, rfl, (hH.nil (K := KS137) OS137 137)⟩
    · replace H := iteF hb20 H
      refine HT_false (congrArg Value.bool hb20) ?_
      refine HT_skip ?_
      refine hK12 _ _ ?_
      refine HT_seq_k ?_
      intro K22 hK22
      refine HT_region ?_
      refine HL_cons rfl ?_
      refine o_assign ?_
      try dsimp only [putL, setL, evL, getL]
      refine HL_nil ?_
      refine hK22 _ _ ?_
      refine HT_seq_k ?_
      intro K23 hK23
      refine HT_seq_k ?_
      intro K24 hK24
      refine HT_region ?_
      refine HL_cons rfl ?_
      refine o_move ?_
      try dsimp only [putL, setL, evL, getL]
      refine HL_cons rfl ?_
      refine o_len rfl Try.underlying77 ?_
      try dsimp only [putL, setL, evL, getL]
      refine HL_cons rfl ?_
      refine o_move ?_
      try dsimp only [putL, setL, evL, getL]
      refine HL_nil ?_
      refine hK24 _ _ ?_
      refine joinH H fun G25 hG25 H => ?_
      refine HT_toK (fun l' s' => ∃ (x117 : List ((Int) × (Int) × (Int) × (Int) × (List (Int)))) (A117 : Option Addr) (c117 : Nat), G25 x117 = some r ∧ l' = [.slice A0p p0.length c0p, .int .i64 p1, undef, undef, .slice none 0 0, .bool false, .slice A117 x117.length c117, undef, getL l' 8, j9, j10, j11, j12, j13, j14, j15, .bool x16, .slice A0p p0.length c0p, .int .i64 (p0.length : Int), getL l' 19, getL l' 20, getL l' 21, getL l' 22, getL l' 23, getL l' 24, getL l' 25, getL l' 26, getL l' 27, getL l' 28, getL l' 29, getL l' 30, getL l' 31, getL l' 32, getL l' 33, undef] ∧ Hp sb s F0 s' [Ck.ol OS137 137 A117 c117 x117]) ?_ ?_
      · intro K25 hK25
        refine HT_block ?_
        refine HT_loopK (fun kf l' s' => ∃ (x148 : List ((Int) × (Int) × (Int) × (Int) × (List (Int)))) (A148 : Option Addr) (c148 : Nat) (x149 : Int), (spec_LogOf.l1 p0 p1 kf x148 x149).bind G25 = some r ∧ l' = [.slice A0p p0.length c0p, .int .i64 p1, undef, undef, .slice none 0 0, .bool false, .slice A148 x148.length c148, undef, getL l' 8, j9, j10, j11, j12, j13, j14, j15, .bool x16, .slice A0p p0.length c0p, .int .i64 (p0.length : Int), .int .i64 x149, getL l' 20, getL l' 21, getL l' 22, getL l' 23, getL l' 24, getL l' 25, getL l' 26, getL l' 27, getL l' 28, getL l' 29, getL l' 30, getL l' 31, getL l' 32, getL l' 33, undef] ∧ Hp sb s F0 s' [Ck.ol OS137 137 A148 c148 x148]) ((((p0.length : Int)) - (0)).toNat + 2) ⟨[], none, 0, 0, H, rfl, (hH.nil (K := KS137) OS137 137)⟩ ?_
        rintro kf l' s180 ⟨x148, A148, c148, x149, H, hl, hH⟩ K180 hK180
        generalize getL l' 8 = j8, getL l' 20 = j20, getL l' 21 = j21, getL l' 22 = j22, getL l' 23 = j23, getL l' 24 = j24, getL l' 25 = j25, getL l' 26 = j26, getL l' 27 = j27, getL l' 28 = j28, getL l' 29 = j29, getL l' 30 = j30, getL l' 31 = j31, getL l' 32 = j32, getL l' 33 = j33 at hl
        subst hl
        cases kf with
        | zero => simp [spec_LogOf.l1] at H
        | succ kf =>
          rw [spec_LogOf.l1] at H
          refine HT_seq_k ?_
          intro K181 hK181
          refine HT_region ?_
          refine HL_cons rfl ?_
          refine o_bin rfl rfl rfl ?_
          try dsimp only [putL, setL, evL, getL]
          refine HL_nil ?_
          refine hK181 _ _ ?_
          refine HT_seq_k ?_
          intro K182 hK182
          rcases Bool.eq_false_or_eq_true (decide (x149 < (p0.length : Int))) with hb183 | hb183
          · replace H := iteT hb183 H
            refine HT_true (congrArg Value.bool hb183) ?_
            refine HT_skip ?_
            refine hK182 _ _ ?_
            refine joinH H fun G184 hG184 H => ?_
            refine HT_joinK (fun l' s' => ∃ (x196 : List ((Int) × (Int) × (Int) × (Int) × (List (Int)))) (A196 : Option Addr) (c196 : Nat), G184 x196 = some r ∧ l' = [.slice A0p p0.length c0p, .int .i64 p1, undef, undef, .slice none 0 0, .bool false, .slice A196 x196.length c196, undef, getL l' 8, j9, j10, j11, j12, j13, j14, j15, .bool x16, .slice A0p p0.length c0p, .int .i64 (p0.length : Int), .int .i64 x149, .bool (decide (x149 < (p0.length : Int))), getL l' 21, getL l' 22, getL l' 23, getL l' 24, getL l' 25, getL l' 26, getL l' 27, getL l' 28, getL l' 29, getL l' 30, getL l' 31, getL l' 32, j33, undef] ∧ Hp sb s F0 s' [Ck.ol OS137 137 A196 c196 x196]) ?_ ?_
            · intro K184 hK184
              refine HT_block ?_
              refine HT_seq_k ?_
              intro K197 hK197
              refine HT_region ?_
              obtain ⟨u198, hu198, H⟩ := headE H
              obtain ⟨b198, o198, cs198, hr198, hh198, hel198⟩ := Rd.elb HRp0 hu198
              obtain ⟨_, _, rfl, rfl, ⟨_, _, rfl, rfl, ⟨_, _, rfl, rfl, ⟨_, _, rfl, rfl, ⟨_, _, rfl, rfl, ⟨A199, c199, rfl, D199⟩⟩⟩⟩⟩⟩ := hr198
              refine HL_cons rfl ?_
              refine hel198 s180 rfl rfl Try.underlying77 tI139 ?_
              try dsimp only [putL, setL, evL, getL]
              refine HL_cons rfl ?_
              refine o_loads' [.int .i64 u198.1, .int .i64 u198.2.1, .int .i64 u198.2.2.1, .int .i64 u198.2.2.2.1, .int .i64 u198.2.2.2.2.1, .slice A199 u198.2.2.2.2.2.length c199] rfl Try.underlying139 rfl tI139 rfl (fun j v hj => (hh198 hH.bs.mono) j v hj) ?_
              try dsimp only [putL, setL, evL, getL]
              refine HL_cons rfl ?_
              refine o_allocH hH tI139 ?_
              intro b200 s200 hH' hG
              replace hH : Hp sb s F0 s200 [Ck.ol OS137 137 A148 c148 x148, Ck.ov b200 [.int .i64 0, .int .i64 0, .int .i64 0, .int .i64 0, .int .i64 0, .slice none 0 0] 139] := hH'
              clear hH' hG
              try dsimp only [putL, setL, evL, getL]
              refine HL_cons rfl ?_
              refine o_stvH (vs := [.int .i64 u198.1, .int .i64 u198.2.1, .int .i64 u198.2.2.1, .int .i64 u198.2.2.2.1, .int .i64 u198.2.2.2.2.1, .slice A199 u198.2.2.2.2.2.length c199]) (us' := [.int .i64 u198.1, .int .i64 u198.2.1, .int .i64 u198.2.2.1, .int .i64 u198.2.2.2.1, .int .i64 u198.2.2.2.2.1, .slice A199 u198.2.2.2.2.2.length c199]) hH 1 rfl rfl rfl rfl rfl tI139 rfl (List.cons_ne_nil _ _) rfl rfl rfl ?_
              intro s201 hH'
              replace hH : Hp sb s F0 s201 [Ck.ol OS137 137 A148 c148 x148, Ck.ov b200 [.int .i64 u198.1, .int .i64 u198.2.1, .int .i64 u198.2.2.1, .int .i64 u198.2.2.2.1, .int .i64 u198.2.2.2.2.1, .slice A199 u198.2.2.2.2.2.length c199] 139] := hH'
              clear hH'
              try dsimp only [putL, setL, evL, getL]
              refine HL_nil ?_
              refine hK197 _ _ ?_
              refine HT_seq_k ?_
              intro K202 hK202
              refine HT_region ?_
              refine HL_cons rfl ?_
              refine o_faddr' (ft := 3) (off := 0) rfl Try.underlying139 rfl tI3 (by decide) ?_
              try dsimp only [putL, setL, evL, getL]
              refine HL_cons rfl ?_
              refine o_load' rfl Try.underlying3 rfl (hH.hasv 1 rfl rfl) ?_
              try dsimp only [putL, setL, evL, getL]
              refine HL_cons rfl ?_
              refine o_move ?_
              try dsimp only [putL, setL, evL, getL]
              refine HL_cons rfl ?_
              refine o_bin rfl rfl rfl ?_
              try dsimp only [putL, setL, evL, getL]
              refine HL_nil ?_
              refine hK202 _ _ ?_
              rcases Bool.eq_false_or_eq_true (u198.1 == p1) with hb203 | hb203
              · replace H := iteT hb203 H
                refine HT_true (congrArg Value.bool hb203) ?_
                refine HT_region ?_
                refine HL_cons rfl ?_
                refine o_move ?_
                try dsimp only [putL, setL, evL, getL]
                refine HL_cons rfl ?_
                refine o_faddr' (ft := 137) (off := 1) rfl Try.underlying139 rfl tI137 (by decide) ?_
                try dsimp only [putL, setL, evL, getL]
                refine HL_cons rfl ?_
                refine o_loads' [.int .i64 u198.2.1, .int .i64 u198.2.2.1, .int .i64 u198.2.2.2.1, .int .i64 u198.2.2.2.2.1, .slice A199 u198.2.2.2.2.2.length c199] rfl Try.underlying137 rfl tI137 rfl (hH.partv 1 rfl (0 + 1) [.int .i64 u198.2.1, .int .i64 u198.2.2.1, .int .i64 u198.2.2.2.1, .int .i64 u198.2.2.2.2.1, .slice A199 u198.2.2.2.2.2.length c199] rfl) ?_
                try dsimp only [putL, setL, evL, getL]
                obtain ⟨u204, hu204, H⟩ := headE H
                refine HL_cons rfl ?_
                refine o_call (args := #[.agg #[.int .i64 u198.2.1, .int .i64 u198.2.2.1, .int .i64 u198.2.2.2.1, .int .i64 u198.2.2.2.2.1, .slice A199 u198.2.2.2.2.2.length c199]]) Try.func124 rfl rfl rfl (spec_l17Event.ok sb s201 no u198.2.1 u198.2.2.1 u198.2.2.2.1 u198.2.2.2.2.1 A199 c199 u198.2.2.2.2.2 D199 (Hp.own hH.bs) _ hu204) ?_
                rintro _ s204 ⟨A205, c205, rfl, hD⟩
                replace hH := hH.back0 hD (Up.refl _ _ _)
                clear hD
                dsimp only [addC, setC, rmC, selC, getC] at hH
                try dsimp only [putL, setL, evL, getL]
                replace hH := hH.conv [2] (by decide) (d := Ck.el OS137 [.int .i64 u204.1, .int .i64 u204.2.1, .int .i64 u204.2.2.1, .int .i64 u204.2.2.2.1, .slice A205 u204.2.2.2.2.length c205] (u204.1, u204.2.1, u204.2.2.1, u204.2.2.2.1, u204.2.2.2.2)) (Ent.pair (v1 := [.int .i64 u204.1]) (v2 := [.int .i64 u204.2.1, .int .i64 u204.2.2.1, .int .i64 u204.2.2.2.1, .slice A205 u204.2.2.2.2.length c205]) (x1 := u204.1) (x2 := (u204.2.1, (u204.2.2.1, (u204.2.2.2.1, u204.2.2.2.2)))) (Ent.flat rfl) (Ent.pair (v1 := [.int .i64 u204.2.1]) (v2 := [.int .i64 u204.2.2.1, .int .i64 u204.2.2.2.1, .slice A205 u204.2.2.2.2.length c205]) (x1 := u204.2.1) (x2 := (u204.2.2.1, (u204.2.2.2.1, u204.2.2.2.2))) (Ent.flat rfl) (Ent.pair (v1 := [.int .i64 u204.2.2.1]) (v2 := [.int .i64 u204.2.2.2.1, .slice A205 u204.2.2.2.2.length c205]) (x1 := u204.2.2.1) (x2 := (u204.2.2.2.1, u204.2.2.2.2)) (Ent.flat rfl) (Ent.pair (v1 := [.int .i64 u204.2.2.2.1]) (v2 := [.slice A205 u204.2.2.2.2.length c205]) (x1 := u204.2.2.2.1) (x2 := u204.2.2.2.2) (Ent.flat rfl) Ent.sl))))
                dsimp only [addC, setC, rmC, selC, getC] at hH
                refine HL_cons rfl ?_
                refine o_litD (K := KS137) (O := OS137) (ca := #[.int .i64 u204.1, .int .i64 u204.2.1, .int .i64 u204.2.2.1, .int .i64 u204.2.2.2.1, .slice A205 u204.2.2.2.2.length c205]) [[.int .i64 u204.1, .int .i64 u204.2.1, .int .i64 u204.2.2.1, .int .i64 u204.2.2.2.1, .slice A205 u204.2.2.2.2.length c205]] [(u204.1, u204.2.1, u204.2.2.1, u204.2.2.2.1, u204.2.2.2.2)] hH [3] (by decide) rfl Try.underlying74 tI137 rfl (by decide) rfl rfl rfl rfl rfl rfl ?_
                intro A206 s206 hH' hG
                replace hH : Hp sb s F0 s206 [Ck.ol OS137 137 A148 c148 x148, Ck.ov b200 [.int .i64 u198.1, .int .i64 u198.2.1, .int .i64 u198.2.2.1, .int .i64 u198.2.2.2.1, .int .i64 u198.2.2.2.2.1, .slice A199 u198.2.2.2.2.2.length c199] 139, Ck.emp, Ck.emp, Ck.ol OS137 137 A206 1 [(u204.1, u204.2.1, u204.2.2.1, u204.2.2.2.1, u204.2.2.2.2)]] := hH'
                clear hH' hG
                try dsimp only [putL, setL, evL, getL]
                obtain ⟨x207, hx207, H⟩ := headE H
                refine HL_cons rfl ?_
                refine o_appD (K := KS137) (n := 2513169434916) (A := A148) (c := c148) (xs := x148) (ys := [(u204.1, u204.2.1, u204.2.2.1, u204.2.2.2.1, u204.2.2.2.2)]) (B := A206) (c2 := 1) hH 0 4 (by decide) rfl rfl rfl rfl rfl Try.underlying74 tI137 rfl (by decide) (by decide) (by decide) hx207 ?_
                intro A207 c207 s207 hH'
                replace hH : Hp sb s F0 s207 [Ck.ol OS137 137 A207 c207 x207, Ck.ov b200 [.int .i64 u198.1, .int .i64 u198.2.1, .int .i64 u198.2.2.1, .int .i64 u198.2.2.2.1, .int .i64 u198.2.2.2.2.1, .slice A199 u198.2.2.2.2.2.length c199] 139, Ck.emp, Ck.emp, Ck.emp] := hH'
                clear hH'
                try dsimp only [putL, setL, evL, getL]
                refine HL_cons rfl ?_
                refine o_assign ?_
                try dsimp only [putL, setL, evL, getL]
                refine HL_nil ?_
                exact hK184 _ _ ⟨x207, A207, c207, H, rfl, hH.sel [0] (by decide)⟩
              · replace H := iteF hb203 H
                refine HT_false (congrArg Value.bool hb203) ?_
                refine HT_skip ?_
                exact hK184 _ _ ⟨x148, A148, c148, H, rfl, hH.sel [0] (by decide)⟩
            · rintro l' s208 ⟨x196, A196, c196, H, hl, hH⟩
              generalize getL l' 8 = j8, getL l' 21 = j21, getL l' 22 = j22, getL l' 23 = j23, getL l' 24 = j24, getL l' 25 = j25, getL l' 26 = j26, getL l' 27 = j27, getL l' 28 = j28, getL l' 29 = j29, getL l' 30 = j30, getL l' 31 = j31, getL l' 32 = j32 at hl
              subst hl
              replace H := hG184 _ H
              try dsimp only at H
              refine HT_region ?_
              refine HL_cons rfl ?_
              refine o_bin rfl rfl rfl ?_
              try dsimp only [putL, setL, evL, getL]
              refine HL_cons rfl ?_
              refine o_move ?_
              try dsimp only [putL, setL, evL, getL]
              refine HL_nil ?_
              exact hK180 _ _ ⟨kf, Nat.lt_succ_self kf, x196, A196, c196, IntKind.i64.wrap (x149 + 1), H, rfl, hH⟩
          · replace H := iteF hb183 H
            refine HT_false (congrArg Value.bool hb183) ?_
            refine HT_exit ?_
            exact hK25 _ _ ⟨x148, A148, c148, H, rfl, hH⟩
      · rintro l' s209 ⟨x117, A117, c117, H, hl, hH⟩
        generalize getL l' 8 = j8, getL l' 19 = j19, getL l' 20 = j20, getL l' 21 = j21, getL l' 22 = j22, getL l' 23 = j23, getL l' 24 = j24, getL l' 25 = j25, getL l' 26 = j26, getL l' 27 = j27, getL l' 28 = j28, getL l' 29 = j29, getL l' 30 = j30, getL l' 31 = j31, getL l' 32 = j32, getL l' 33 = j33 at hl
        subst hl
        replace H := hG25 _ H
        try dsimp only at H
        refine hK23 _ _ ?_
        refine HT_seq_k ?_
        intro K210 hK210
        refine HT_region ?_
        refine HL_cons rfl ?_
        refine o_move ?_
        try dsimp only [putL, setL, evL, getL]
        refine HL_cons rfl ?_
        refine o_assign ?_
        try dsimp only [putL, setL, evL, getL]
        refine HL_cons rfl ?_
        refine o_assign ?_
        try dsimp only [putL, setL, evL, getL]
        refine HL_nil ?_
        refine hK210 _ _ ?_
        refine HT_ret ?_
        obtain rfl := Option.some.inj (show some _ = some r from H)
        exact hQr _ _ [.slice A117 x117.length c117, .bool true] ⟨rfl, rfl, trivial⟩ ⟨A117, c117, rfl, hH⟩
def impl_inRange.f (p0 : Int) (p1 : Int) (p2 : Int) : Option Bool := if (decide (p1 ≤ p0)) = true then (some (decide (p0 ≤ p2))) else (some false)
def impl_inRange.post (sb s : St) (F0 : Fp) (r : Bool) : Value → St → Prop := fun v s' => v = .bool r ∧ Hp sb s F0 s' []
set_option maxRecDepth 100000 in
set_option maxHeartbeats 4000000 in
theorem impl_inRange.ok (sb s : St) (F0 : Fp) (p0 : Int) (p1 : Int) (p2 : Int) (hH : Hp sb s F0 s []) (r : Bool) (H : impl_inRange.f p0 p1 p2 = some r) : GCall Try.prog 86 #[.int .i64 p0, .int .i64 p1, .int .i64 p2] s (impl_inRange.post sb s F0 r) := by
  refine GCall_ofk [.tmp 6] [.int .i64 p0, .int .i64 p1, .int .i64 p2, undef, undef, undef, undef, undef, undef, undef, undef, undef, undef, undef, undef] Try.func86 rfl rfl rfl ?_
  intro w Q hQr hQn hQp
  replace H := topE H
  unfold impl_inRange.f at H
  refine HT_seq_k ?_
  intro K1 hK1
  refine HT_region ?_
  refine HL_cons rfl ?_
  refine o_assign ?_
  try dsimp only [putL, setL, evL, getL]
  refine HL_nil ?_
  refine hK1 _ _ ?_
  refine HT_seq_k ?_
  intro K2 hK2
  refine HT_region ?_
  refine HL_cons rfl ?_
  refine o_move ?_
  try dsimp only [putL, setL, evL, getL]
  refine HL_cons rfl ?_
  refine o_move ?_
  try dsimp only [putL, setL, evL, getL]
  refine HL_cons rfl ?_
  refine o_bin rfl rfl rfl ?_
  try dsimp only [putL, setL, evL, getL]
  refine HL_cons rfl ?_
  refine o_move ?_
  try dsimp only [putL, setL, evL, getL]
  rcases Bool.eq_false_or_eq_true (decide (p1 ≤ p0)) with hb3 | hb3
  · replace H := iteT hb3 H
    refine HL_want ?_ ?_
    · exact wantT (j := 3) (b := true) (t := 10) (c := decide (p1 ≤ p0)) rfl rfl rfl rfl hb3
    refine o_move ?_
    try dsimp only [putL, setL, evL, getL]
    refine HL_want ?_ ?_
    · exact wantT (j := 3) (b := true) (t := 10) (c := decide (p1 ≤ p0)) rfl rfl rfl rfl hb3
    refine o_move ?_
    try dsimp only [putL, setL, evL, getL]
    refine HL_want ?_ ?_
    · exact wantT (j := 3) (b := true) (t := 10) (c := decide (p1 ≤ p0)) rfl rfl rfl rfl hb3
    refine o_bin rfl rfl rfl ?_
    try dsimp only [putL, setL, evL, getL]
    refine HL_cons rfl ?_
    refine o_pickT rfl hb3 ?_
    try dsimp only [putL, setL, evL, getL]
    refine HL_cons rfl ?_
    refine o_assign ?_
    try dsimp only [putL, setL, evL, getL]
    refine HL_nil ?_
    refine hK2 _ _ ?_
    refine HT_ret ?_
    obtain rfl := Option.some.inj (show some _ = some r from H)
    exact hQr _ _ [.bool (decide (p0 ≤ p2))] ⟨rfl, trivial⟩ ⟨rfl, hH⟩
  · replace H := iteF hb3 H
    refine HL_skip ?_ ?_
    · exact wantF (j := 3) (b := true) (t := 10) (c := decide (p1 ≤ p0)) rfl rfl rfl rfl hb3
    try dsimp only [putL, setL, evL, getL]
    refine HL_skip ?_ ?_
    · exact wantF (j := 3) (b := true) (t := 10) (c := decide (p1 ≤ p0)) rfl rfl rfl rfl hb3
    try dsimp only [putL, setL, evL, getL]
    refine HL_skip ?_ ?_
    · exact wantF (j := 3) (b := true) (t := 10) (c := decide (p1 ≤ p0)) rfl rfl rfl rfl hb3
    try dsimp only [putL, setL, evL, getL]
    refine HL_cons rfl ?_
    refine o_pickF rfl hb3 ?_
    try dsimp only [putL, setL, evL, getL]
    refine HL_cons rfl ?_
    refine o_assign ?_
    try dsimp only [putL, setL, evL, getL]
    refine HL_nil ?_
    refine hK2 _ _ ?_
    refine HT_ret ?_
    obtain rfl := Option.some.inj (show some _ = some r from H)
    exact hQr _ _ [.bool false] ⟨rfl, trivial⟩ ⟨rfl, hH⟩
def impl_isPlace.f (p0 : Int) (p1 : Int) : Option Bool := (impl_inRange.f p0 0 (IntKind.i64.wrap (p1 - 1))).bind fun u3 => some u3
def impl_isPlace.post (sb s : St) (F0 : Fp) (r : Bool) : Value → St → Prop := fun v s' => v = .bool r ∧ Hp sb s F0 s' []
set_option maxRecDepth 100000 in
set_option maxHeartbeats 4000000 in
theorem impl_isPlace.ok (sb s : St) (F0 : Fp) (p0 : Int) (p1 : Int) (hH : Hp sb s F0 s []) (r : Bool) (H : impl_isPlace.f p0 p1 = some r) : GCall Try.prog 126 #[.int .i64 p0, .int .i64 p1] s (impl_isPlace.post sb s F0 r) := by
  refine GCall_ofk [.tmp 4] [.int .i64 p0, .int .i64 p1, undef, undef, undef, undef, undef, undef, undef] Try.func126 rfl rfl rfl ?_
  intro w Q hQr hQn hQp
  replace H := topE H
  unfold impl_isPlace.f at H
  refine HT_seq_k ?_
  intro K1 hK1
  refine HT_region ?_
  refine HL_cons rfl ?_
  refine o_assign ?_
  try dsimp only [putL, setL, evL, getL]
  refine HL_nil ?_
  refine hK1 _ _ ?_
  refine HT_seq_k ?_
  intro K2 hK2
  refine HT_region ?_
  refine HL_cons rfl ?_
  refine o_move ?_
  try dsimp only [putL, setL, evL, getL]
  refine HL_cons rfl ?_
  refine o_move ?_
  try dsimp only [putL, setL, evL, getL]
  refine HL_cons rfl ?_
  refine o_bin rfl rfl rfl ?_
  try dsimp only [putL, setL, evL, getL]
  obtain ⟨u3, hu3, H⟩ := headE H
  refine HL_cons rfl ?_
  refine o_call (args := #[.int .i64 p0, .int .i64 0, .int .i64 (IntKind.i64.wrap (p1 - 1))]) Try.func86 rfl rfl rfl (impl_inRange.ok sb s no p0 0 (IntKind.i64.wrap (p1 - 1)) (Hp.own hH.bs) _ hu3) ?_
  rintro _ s3 ⟨rfl, hD⟩
  replace hH := hH.back0 hD (Up.refl _ _ _)
  clear hD
  dsimp only [addC, setC, rmC, selC, getC] at hH
  try dsimp only [putL, setL, evL, getL]
  refine HL_cons rfl ?_
  refine o_assign ?_
  try dsimp only [putL, setL, evL, getL]
  refine HL_nil ?_
  refine hK2 _ _ ?_
  refine HT_ret ?_
  obtain rfl := Option.some.inj (show some _ = some r from H)
  exact hQr _ _ [.bool u3] ⟨rfl, trivial⟩ ⟨rfl, hH⟩
def slices_Clone_int_int.f (p0 : List (Int)) : Option (List (Int)) := app? 17592186044416 [] p0
def slices_Clone_int_int.post (sb s : St) (F0 : Fp) (r : List (Int)) : Value → St → Prop := fun v s' => ∃ (A0 : Option Addr) (c0 : Nat), v = .slice A0 r.length c0 ∧ Hp sb s F0 s' [Ck.ol OI 3 A0 c0 r]
set_option maxRecDepth 100000 in
set_option maxHeartbeats 4000000 in
theorem slices_Clone_int_int.ok (sb s : St) (F0 : Fp) (A0p : Option Addr) (c0p : Nat) (p0 : List (Int)) (HRp0 : Rd KI sb A0p c0p p0) (hH : Hp sb s F0 s []) (r : List (Int)) (H : slices_Clone_int_int.f p0 = some r) : GCall Try.prog 94 #[.slice A0p p0.length c0p] s (slices_Clone_int_int.post sb s F0 r) := by
  refine GCall_ofk [.tmp 2] [.slice A0p p0.length c0p, undef, undef, undef, undef, undef, undef, undef] Try.func94 rfl rfl rfl ?_
  intro w Q hQr hQn hQp
  unfold slices_Clone_int_int.f at H
  refine HT_seq_k ?_
  intro K1 hK1
  refine HT_region ?_
  refine HL_cons rfl ?_
  refine o_assign ?_
  refine HL_nil ?_
  refine hK1 _ _ ?_
  refine HT_seq_k ?_
  intro K2 hK2
  refine HT_seq_k ?_
  intro K3 hK3
  refine HT_region ?_
  refine HL_cons rfl ?_
  refine o_move ?_
  dsimp only [putL, setL, evL, getL]
  refine HL_cons rfl ?_
  refine o_eqN rfl rfl Try.underlying22 ?_
  dsimp only [putL, setL, evL, getL]
  refine HL_nil ?_
  refine hK3 _ _ ?_
  cases A0p with
  | none =>
    have hp : p0 = [] := by
      by_cases h : p0 = []
      · exact h
      · obtain ⟨b, o, hA, _⟩ := HRp0.2.2 h
        cases hA
    subst hp
    obtain ⟨_, rfl⟩ := app?_some H
    refine HT_true rfl ?_
    refine HT_seq_k ?_
    intro K4 hK4
    refine HT_region ?_
    refine HL_cons rfl ?_
    refine o_assign ?_
    dsimp only [putL, setL, evL, getL]
    refine HL_nil ?_
    refine hK4 _ _ ?_
    refine HT_ret ?_
    exact hQr _ _ [.slice none 0 0] ⟨rfl, trivial⟩ ⟨none, 0, rfl, hH.nil (K := KI) OI 3⟩
  | some a =>
    refine HT_false rfl ?_
    refine HT_skip ?_
    refine hK2 _ _ ?_
    refine HT_seq_k ?_
    intro K4 hK4
    refine HT_region ?_
    refine HL_cons rfl ?_
    refine o_lit0H (α := Int) (K := KI) (O := OI) hH Try.underlying22 tI3 ?_
    intro A1 s1 hH hG
    dsimp only [putL, setL, evL, getL]
    refine HL_cons rfl ?_
    refine o_move ?_
    dsimp only [putL, setL, evL, getL]
    refine HL_cons rfl ?_
    refine o_appF (n := 17592186044416) (A := A1) (c := 0) (xs := ([] : List (Int))) (ys := p0) (B := some a) (c2 := c0p) hH 0 rfl rfl rfl rfl Try.underlying22 tI3 rfl (by decide) (by decide) (by decide) (Src.flat (HRp0.mono hH.bs.mono)) H ?_
    intro A2 c2 s2 hH
    dsimp only [putL, setL, evL, getL]
    refine HL_cons rfl ?_
    refine o_assign ?_
    dsimp only [putL, setL, evL, getL]
    refine HL_nil ?_
    refine hK4 _ _ ?_
    refine HT_ret ?_
    exact hQr _ _ [.slice A2 r.length c2] ⟨rfl, trivial⟩ ⟨A2, c2, rfl, hH⟩
def impl_LogOf.l1 (p0 : List ((Int) × ((Int) × (Int) × (Int) × (Int) × (List (Int))))) (p1 : Int) : Nat → (List ((Int) × (Int) × (Int) × (Int) × (List (Int)))) → Int → Option (List ((Int) × (Int) × (Int) × (Int) × (List (Int))))
  | 0, _, _ => none
  | kf + 1, x185, x186 => if (decide (x186 < (p0.length : Int))) = true then (((rd? p0 x186).bind fun u250 => if (u250.1 == p1) = true then ((slices_Clone_int_int.f u250.2.2.2.2.2).bind fun u260 => (app? 2513169434916 x185 [(u250.2.1, u250.2.2.1, u250.2.2.2.1, u250.2.2.2.2.1, u260)]).bind fun x264 => some x264) else (some x185)).bind fun (o : (List ((Int) × (Int) × (Int) × (Int) × (List (Int))))) => match o with | x248 => (impl_LogOf.l1 p0 p1 kf x248 (IntKind.i64.wrap (x186 + 1)))) else (some x185)
def impl_LogOf.f (p0 : List ((Int) × ((Int) × (Int) × (Int) × (Int) × (List (Int))))) (p1 : Int) : Option ((List ((Int) × (Int) × (Int) × (Int) × (List (Int)))) × Bool) := (if (decide ((p0.length : Int) > 2000)) = true then (some true) else ((impl_isPlace.f p1 4).bind fun u18 => some (!u18))).bind fun (o : Bool) => match o with | x16 => (if x16 = true then (some ([], false)) else ((impl_LogOf.l1 p0 p1 ((((p0.length : Int)) - (0)).toNat + 2) ([] : List ((Int) × (Int) × (Int) × (Int) × (List (Int)))) 0).bind fun (o : (List ((Int) × (Int) × (Int) × (Int) × (List (Int))))) => match o with | x146 => (some (x146, true))))
def impl_LogOf.post (sb s : St) (F0 : Fp) (r : (List ((Int) × (Int) × (Int) × (Int) × (List (Int)))) × Bool) : Value → St → Prop := fun v s' => ∃ (A0 : Option Addr) (c0 : Nat), v = .tuple #[.slice A0 r.1.length c0, .bool r.2] ∧ Hp sb s F0 s' [Ck.ol OS137 137 A0 c0 r.1]
set_option maxRecDepth 100000 in
set_option maxHeartbeats 4000000 in
theorem impl_LogOf.ok (sb s : St) (F0 : Fp) (A0p : Option Addr) (c0p : Nat) (p0 : List ((Int) × ((Int) × (Int) × (Int) × (Int) × (List (Int))))) (p1 : Int) (HRp0 : Rd KS139 sb A0p c0p p0) (hH : Hp sb s F0 s []) (r : (List ((Int) × (Int) × (Int) × (Int) × (List (Int)))) × Bool) (H : impl_LogOf.f p0 p1 = some r) : GCall Try.prog 59 #[.slice A0p p0.length c0p, .int .i64 p1] s (impl_LogOf.post sb s F0 r) := by
  refine GCall_ofk [.tmp 4, .tmp 5] [.slice A0p p0.length c0p, .int .i64 p1, undef, undef, undef, undef, undef, undef, undef, undef, undef, undef, undef, undef, undef, undef, undef, undef, undef, undef, undef, undef, undef, undef, undef, undef, undef, undef, undef, undef, undef, undef, undef, undef, undef, undef, undef, undef, undef, undef, undef] Try.func59 rfl rfl rfl ?_
  intro w Q hQr hQn hQp
  replace H := topE H
  unfold impl_LogOf.f at H
  refine HT_seq_k ?_
  intro K1 hK1
  refine HT_region ?_
  refine HL_cons rfl ?_
  refine o_assign ?_
  try dsimp only [putL, setL, evL, getL]
  refine HL_cons rfl ?_
  refine o_assign ?_
  try dsimp only [putL, setL, evL, getL]
  refine HL_nil ?_
  refine hK1 _ _ ?_
  refine HT_seq_k ?_
  intro K12 hK12
  refine joinH H fun G13 hG13 H => ?_
  refine HT_joinK (fun l' s' => ∃ (x16 : Bool), G13 x16 = some r ∧ l' = [.slice A0p p0.length c0p, .int .i64 p1, undef, undef, .slice none 0 0, .bool false, undef, undef, undef, undef, getL l' 10, getL l' 11, getL l' 12, getL l' 13, getL l' 14, getL l' 15, getL l' 16, .bool x16, undef, undef, undef, undef, undef, undef, undef, undef, undef, undef, undef, undef, undef, undef, undef, undef, undef, undef, undef, undef, undef, undef, undef] ∧ Hp sb s F0 s' []) ?_ ?_
  · intro K13 hK13
    refine HT_region ?_
    refine HL_cons rfl ?_
    refine o_move ?_
    try dsimp only [putL, setL, evL, getL]
    refine HL_cons rfl ?_
    refine o_len rfl Try.underlying77 ?_
    try dsimp only [putL, setL, evL, getL]
    refine HL_cons rfl ?_
    refine o_bin rfl rfl rfl ?_
    try dsimp only [putL, setL, evL, getL]
    refine HL_cons rfl ?_
    refine o_move ?_
    try dsimp only [putL, setL, evL, getL]
    rcases Bool.eq_false_or_eq_true (decide ((p0.length : Int) > 2000)) with hb17 | hb17
    · replace H := iteT hb17 H
      refine HL_skip ?_ ?_
      · exact wantF (j := 3) (b := false) (t := 13) (c := decide ((p0.length : Int) > 2000)) rfl rfl rfl rfl hb17
      try dsimp only [putL, setL, evL, getL]
      refine HL_skip ?_ ?_
      · exact wantF (j := 3) (b := false) (t := 13) (c := decide ((p0.length : Int) > 2000)) rfl rfl rfl rfl hb17
      try dsimp only [putL, setL, evL, getL]
      refine HL_skip ?_ ?_
      · exact wantF (j := 3) (b := false) (t := 13) (c := decide ((p0.length : Int) > 2000)) rfl rfl rfl rfl hb17
      try dsimp only [putL, setL, evL, getL]
      refine HL_cons rfl ?_
      refine o_pickT rfl hb17 ?_
      try dsimp only [putL, setL, evL, getL]
      refine HL_nil ?_
      exact hK13 _ _ ⟨true, H, rfl, hH⟩
    · replace H := iteF hb17 H
      refine HL_want ?_ ?_
      · exact wantT (j := 3) (b := false) (t := 13) (c := decide ((p0.length : Int) > 2000)) rfl rfl rfl rfl hb17
      refine o_move ?_
      try dsimp only [putL, setL, evL, getL]
      obtain ⟨u18, hu18, H⟩ := headE H
      refine HL_want ?_ ?_
      · exact wantT (j := 3) (b := false) (t := 13) (c := decide ((p0.length : Int) > 2000)) rfl rfl rfl rfl hb17
      refine o_call (args := #[.int .i64 p1, .int .i64 4]) Try.func126 rfl rfl rfl (impl_isPlace.ok sb s no p1 4 (Hp.own hH.bs) _ hu18) ?_
      rintro _ s18 ⟨rfl, hD⟩
      replace hH := hH.back0 hD (Up.refl _ _ _)
      clear hD
      dsimp only [addC, setC, rmC, selC, getC] at hH
      try dsimp only [putL, setL, evL, getL]
      refine HL_want ?_ ?_
      · exact wantT (j := 3) (b := false) (t := 13) (c := decide ((p0.length : Int) > 2000)) rfl rfl rfl rfl hb17
      refine o_not rfl ?_
      try dsimp only [putL, setL, evL, getL]
      refine HL_cons rfl ?_
      refine o_pickF rfl hb17 ?_
      try dsimp only [putL, setL, evL, getL]
      refine HL_nil ?_
      exact hK13 _ _ ⟨!u18, H, rfl, hH⟩
  · rintro l' s19 ⟨x16, H, hl, hH⟩
    generalize getL l' 10 = j10, getL l' 11 = j11, getL l' 12 = j12, getL l' 13 = j13, getL l' 14 = j14, getL l' 15 = j15, getL l' 16 = j16 at hl
    subst hl
    replace H := hG13 _ H
    try dsimp only at H
    rcases Bool.eq_false_or_eq_true x16 with hb20 | hb20
    · replace H := iteT hb20 H
      refine HT_true (congrArg Value.bool hb20) ?_
      refine HT_seq_k ?_
      intro K21 hK21
      refine HT_region ?_
      refine HL_cons rfl ?_
      refine o_assign ?_
      try dsimp only [putL, setL, evL, getL]
      refine HL_cons rfl ?_
      refine o_assign ?_
      try dsimp only [putL, setL, evL, getL]
      refine HL_nil ?_
      refine hK21 _ _ ?_
      refine HT_ret ?_
      obtain rfl := Option.some.inj (show some _ = some r from H)
      exact hQr _ _ [.slice none 0 0, .bool false] ⟨rfl, rfl, trivial⟩ ⟨none, 0, rfl, (hH.nil (K := KS137) OS137 137)⟩
    · replace H := iteF hb20 H
      refine HT_false (congrArg Value.bool hb20) ?_
      refine HT_skip ?_
      refine hK12 _ _ ?_
      refine HT_seq_k ?_
      intro K22 hK22
      refine HT_region ?_
      refine HL_cons rfl ?_
      refine o_lit0H (α := (Int) × (Int) × (Int) × (Int) × (List (Int))) (K := KS137) (O := OS137) hH Try.underlying74 tI137 ?_
      intro A23 s23 hH' hG
      replace hH : Hp sb s F0 s23 [Ck.ol OS137 137 A23 0 ([] : List ((Int) × (Int) × (Int) × (Int) × (List (Int))))] := hH'
      clear hH' hG
      try dsimp only [putL, setL, evL, getL]
      refine HL_cons rfl ?_
      refine o_assign ?_
      try dsimp only [putL, setL, evL, getL]
      refine HL_nil ?_
      refine hK22 _ _ ?_
      refine HT_seq_k ?_
      intro K24 hK24
      refine HT_seq_k ?_
      intro K25 hK25
      refine HT_region ?_
      refine HL_cons rfl ?_
      refine o_move ?_
      try dsimp only [putL, setL, evL, getL]
      refine HL_cons rfl ?_
      refine o_len rfl Try.underlying77 ?_
      try dsimp only [putL, setL, evL, getL]
      refine HL_cons rfl ?_
      refine o_move ?_
      try dsimp only [putL, setL, evL, getL]
      refine HL_nil ?_
      refine hK25 _ _ ?_
      refine joinH H fun G26 hG26 H => ?_
      refine HT_toK (fun l' s' => ∃ (x146 : List ((Int) × (Int) × (Int) × (Int) × (List (Int)))) (A146 : Option Addr) (c146 : Nat), G26 x146 = some r ∧ l' = [.slice A0p p0.length c0p, .int .i64 p1, undef, undef, .slice none 0 0, .bool false, .slice A146 x146.length c146, undef, getL l' 8, getL l' 9, j10, j11, j12, j13, j14, j15, j16, .bool x16, .slice A23 ([] : List ((Int) × (Int) × (Int) × (Int) × (List (Int)))).length 0, .slice A0p p0.length c0p, .int .i64 (p0.length : Int), getL l' 21, getL l' 22, getL l' 23, getL l' 24, getL l' 25, getL l' 26, getL l' 27, getL l' 28, getL l' 29, getL l' 30, getL l' 31, getL l' 32, getL l' 33, getL l' 34, getL l' 35, getL l' 36, getL l' 37, getL l' 38, getL l' 39, undef] ∧ Hp sb s F0 s' [Ck.ol OS137 137 A146 c146 x146]) ?_ ?_
      · intro K26 hK26
        refine HT_block ?_
        refine HT_loopK (fun kf l' s' => ∃ (x185 : List ((Int) × (Int) × (Int) × (Int) × (List (Int)))) (A185 : Option Addr) (c185 : Nat) (x186 : Int), (impl_LogOf.l1 p0 p1 kf x185 x186).bind G26 = some r ∧ l' = [.slice A0p p0.length c0p, .int .i64 p1, undef, undef, .slice none 0 0, .bool false, .slice A185 x185.length c185, undef, getL l' 8, getL l' 9, j10, j11, j12, j13, j14, j15, j16, .bool x16, .slice A23 ([] : List ((Int) × (Int) × (Int) × (Int) × (List (Int)))).length 0, .slice A0p p0.length c0p, .int .i64 (p0.length : Int), .int .i64 x186, getL l' 22, getL l' 23, getL l' 24, getL l' 25, getL l' 26, getL l' 27, getL l' 28, getL l' 29, getL l' 30, getL l' 31, getL l' 32, getL l' 33, getL l' 34, getL l' 35, getL l' 36, getL l' 37, getL l' 38, getL l' 39, undef] ∧ Hp sb s F0 s' [Ck.ol OS137 137 A185 c185 x185]) ((((p0.length : Int)) - (0)).toNat + 2) ⟨([] : List ((Int) × (Int) × (Int) × (Int) × (List (Int)))), A23, 0, 0, H, rfl, hH⟩ ?_
        rintro kf l' s227 ⟨x185, A185, c185, x186, H, hl, hH⟩ K227 hK227
        generalize getL l' 8 = j8, getL l' 9 = j9, getL l' 22 = j22, getL l' 23 = j23, getL l' 24 = j24, getL l' 25 = j25, getL l' 26 = j26, getL l' 27 = j27, getL l' 28 = j28, getL l' 29 = j29, getL l' 30 = j30, getL l' 31 = j31, getL l' 32 = j32, getL l' 33 = j33, getL l' 34 = j34, getL l' 35 = j35, getL l' 36 = j36, getL l' 37 = j37, getL l' 38 = j38, getL l' 39 = j39 at hl
        subst hl
        cases kf with
        | zero => simp [impl_LogOf.l1] at H
        | succ kf =>
          rw [impl_LogOf.l1] at H
          refine HT_seq_k ?_
          intro K228 hK228
          refine HT_region ?_
          refine HL_cons rfl ?_
          refine o_bin rfl rfl rfl ?_
          try dsimp only [putL, setL, evL, getL]
          refine HL_nil ?_
          refine hK228 _ _ ?_
          refine HT_seq_k ?_
          intro K229 hK229
          rcases Bool.eq_false_or_eq_true (decide (x186 < (p0.length : Int))) with hb230 | hb230
          · replace H := iteT hb230 H
            refine HT_true (congrArg Value.bool hb230) ?_
            refine HT_skip ?_
            refine hK229 _ _ ?_
            refine joinH H fun G231 hG231 H => ?_
            refine HT_joinK (fun l' s' => ∃ (x248 : List ((Int) × (Int) × (Int) × (Int) × (List (Int)))) (A248 : Option Addr) (c248 : Nat), G231 x248 = some r ∧ l' = [.slice A0p p0.length c0p, .int .i64 p1, undef, undef, .slice none 0 0, .bool false, .slice A248 x248.length c248, undef, getL l' 8, getL l' 9, j10, j11, j12, j13, j14, j15, j16, .bool x16, .slice A23 ([] : List ((Int) × (Int) × (Int) × (Int) × (List (Int)))).length 0, .slice A0p p0.length c0p, .int .i64 (p0.length : Int), .int .i64 x186, .bool (decide (x186 < (p0.length : Int))), getL l' 23, getL l' 24, getL l' 25, getL l' 26, getL l' 27, getL l' 28, getL l' 29, getL l' 30, getL l' 31, getL l' 32, getL l' 33, getL l' 34, getL l' 35, getL l' 36, getL l' 37, getL l' 38, j39, undef] ∧ Hp sb s F0 s' [Ck.ol OS137 137 A248 c248 x248]) ?_ ?_
            · intro K231 hK231
              refine HT_block ?_
              refine HT_seq_k ?_
              intro K249 hK249
              refine HT_region ?_
              obtain ⟨u250, hu250, H⟩ := headE H
              obtain ⟨b250, o250, cs250, hr250, hh250, hel250⟩ := Rd.elb HRp0 hu250
              obtain ⟨_, _, rfl, rfl, ⟨_, _, rfl, rfl, ⟨_, _, rfl, rfl, ⟨_, _, rfl, rfl, ⟨_, _, rfl, rfl, ⟨A251, c251, rfl, D251⟩⟩⟩⟩⟩⟩ := hr250
              refine HL_cons rfl ?_
              refine hel250 s227 rfl rfl Try.underlying77 tI139 ?_
              try dsimp only [putL, setL, evL, getL]
              refine HL_cons rfl ?_
              refine o_loads' [.int .i64 u250.1, .int .i64 u250.2.1, .int .i64 u250.2.2.1, .int .i64 u250.2.2.2.1, .int .i64 u250.2.2.2.2.1, .slice A251 u250.2.2.2.2.2.length c251] rfl Try.underlying139 rfl tI139 rfl (fun j v hj => (hh250 hH.bs.mono) j v hj) ?_
              try dsimp only [putL, setL, evL, getL]
              refine HL_cons rfl ?_
              refine o_allocH hH tI139 ?_
              intro b252 s252 hH' hG
              replace hH : Hp sb s F0 s252 [Ck.ol OS137 137 A185 c185 x185, Ck.ov b252 [.int .i64 0, .int .i64 0, .int .i64 0, .int .i64 0, .int .i64 0, .slice none 0 0] 139] := hH'
              clear hH' hG
              try dsimp only [putL, setL, evL, getL]
              refine HL_cons rfl ?_
              refine o_stvH (vs := [.int .i64 u250.1, .int .i64 u250.2.1, .int .i64 u250.2.2.1, .int .i64 u250.2.2.2.1, .int .i64 u250.2.2.2.2.1, .slice A251 u250.2.2.2.2.2.length c251]) (us' := [.int .i64 u250.1, .int .i64 u250.2.1, .int .i64 u250.2.2.1, .int .i64 u250.2.2.2.1, .int .i64 u250.2.2.2.2.1, .slice A251 u250.2.2.2.2.2.length c251]) hH 1 rfl rfl rfl rfl rfl tI139 rfl (List.cons_ne_nil _ _) rfl rfl rfl ?_
              intro s253 hH'
              replace hH : Hp sb s F0 s253 [Ck.ol OS137 137 A185 c185 x185, Ck.ov b252 [.int .i64 u250.1, .int .i64 u250.2.1, .int .i64 u250.2.2.1, .int .i64 u250.2.2.2.1, .int .i64 u250.2.2.2.2.1, .slice A251 u250.2.2.2.2.2.length c251] 139] := hH'
              clear hH'
              try dsimp only [putL, setL, evL, getL]
              refine HL_nil ?_
              refine hK249 _ _ ?_
              refine HT_seq_k ?_
              intro K254 hK254
              refine HT_region ?_
              refine HL_cons rfl ?_
              refine o_faddr' (ft := 3) (off := 0) rfl Try.underlying139 rfl tI3 (by decide) ?_
              try dsimp only [putL, setL, evL, getL]
              refine HL_cons rfl ?_
              refine o_load' rfl Try.underlying3 rfl (hH.hasv 1 rfl rfl) ?_
              try dsimp only [putL, setL, evL, getL]
              refine HL_cons rfl ?_
              refine o_move ?_
              try dsimp only [putL, setL, evL, getL]
              refine HL_cons rfl ?_
              refine o_bin rfl rfl rfl ?_
              try dsimp only [putL, setL, evL, getL]
              refine HL_nil ?_
              refine hK254 _ _ ?_
              rcases Bool.eq_false_or_eq_true (u250.1 == p1) with hb255 | hb255
              · replace H := iteT hb255 H
                refine HT_true (congrArg Value.bool hb255) ?_
                refine HT_seq_k ?_
                intro K256 hK256
                refine HT_region ?_
                refine HL_cons rfl ?_
                refine o_faddr' (ft := 137) (off := 1) rfl Try.underlying139 rfl tI137 (by decide) ?_
                try dsimp only [putL, setL, evL, getL]
                refine HL_cons rfl ?_
                refine o_loads' [.int .i64 u250.2.1, .int .i64 u250.2.2.1, .int .i64 u250.2.2.2.1, .int .i64 u250.2.2.2.2.1, .slice A251 u250.2.2.2.2.2.length c251] rfl Try.underlying137 rfl tI137 rfl (hH.partv 1 rfl (0 + 1) [.int .i64 u250.2.1, .int .i64 u250.2.2.1, .int .i64 u250.2.2.2.1, .int .i64 u250.2.2.2.2.1, .slice A251 u250.2.2.2.2.2.length c251] rfl) ?_
                try dsimp only [putL, setL, evL, getL]
                refine HL_cons rfl ?_
                refine o_allocH hH tI137 ?_
                intro b257 s257 hH' hG
                replace hH : Hp sb s F0 s257 [Ck.ol OS137 137 A185 c185 x185, Ck.ov b252 [.int .i64 u250.1, .int .i64 u250.2.1, .int .i64 u250.2.2.1, .int .i64 u250.2.2.2.1, .int .i64 u250.2.2.2.2.1, .slice A251 u250.2.2.2.2.2.length c251] 139, Ck.ov b257 [.int .i64 0, .int .i64 0, .int .i64 0, .int .i64 0, .slice none 0 0] 137] := hH'
                clear hH' hG
                try dsimp only [putL, setL, evL, getL]
                refine HL_cons rfl ?_
                refine o_stvH (vs := [.int .i64 u250.2.1, .int .i64 u250.2.2.1, .int .i64 u250.2.2.2.1, .int .i64 u250.2.2.2.2.1, .slice A251 u250.2.2.2.2.2.length c251]) (us' := [.int .i64 u250.2.1, .int .i64 u250.2.2.1, .int .i64 u250.2.2.2.1, .int .i64 u250.2.2.2.2.1, .slice A251 u250.2.2.2.2.2.length c251]) hH 2 rfl rfl rfl rfl rfl tI137 rfl (List.cons_ne_nil _ _) rfl rfl rfl ?_
                intro s258 hH'
                replace hH : Hp sb s F0 s258 [Ck.ol OS137 137 A185 c185 x185, Ck.ov b252 [.int .i64 u250.1, .int .i64 u250.2.1, .int .i64 u250.2.2.1, .int .i64 u250.2.2.2.1, .int .i64 u250.2.2.2.2.1, .slice A251 u250.2.2.2.2.2.length c251] 139, Ck.ov b257 [.int .i64 u250.2.1, .int .i64 u250.2.2.1, .int .i64 u250.2.2.2.1, .int .i64 u250.2.2.2.2.1, .slice A251 u250.2.2.2.2.2.length c251] 137] := hH'
                clear hH'
                try dsimp only [putL, setL, evL, getL]
                refine HL_nil ?_
                refine hK256 _ _ ?_
                refine HT_seq_k ?_
                intro K259 hK259
                refine HT_region ?_
                refine HL_cons rfl ?_
                refine o_faddr' (ft := 22) (off := 4) rfl Try.underlying137 rfl tI22 (by decide) ?_
                try dsimp only [putL, setL, evL, getL]
                refine HL_cons rfl ?_
                refine o_load' rfl Try.underlying22 rfl (hH.hasv 2 rfl rfl) ?_
                try dsimp only [putL, setL, evL, getL]
                obtain ⟨u260, hu260, H⟩ := headE H
                refine HL_cons rfl ?_
                refine o_call (args := #[.slice A251 u250.2.2.2.2.2.length c251]) Try.func94 rfl rfl rfl (slices_Clone_int_int.ok sb s258 no A251 c251 u250.2.2.2.2.2 D251 (Hp.own hH.bs) _ hu260) ?_
                rintro _ s260 ⟨A261, c261, rfl, hD⟩
                replace hH := hH.back0 hD (Up.refl _ _ _)
                clear hD
                dsimp only [addC, setC, rmC, selC, getC] at hH
                try dsimp only [putL, setL, evL, getL]
                refine HL_cons rfl ?_
                refine o_faddr' (ft := 22) (off := 4) rfl Try.underlying137 rfl tI22 (by decide) ?_
                try dsimp only [putL, setL, evL, getL]
                refine HL_cons rfl ?_
                refine o_stvH (vs := [.slice A261 u260.length c261]) (us' := [.int .i64 u250.2.1, .int .i64 u250.2.2.1, .int .i64 u250.2.2.2.1, .int .i64 u250.2.2.2.2.1, .slice A261 u260.length c261]) hH 2 rfl rfl rfl rfl rfl tI22 rfl (List.cons_ne_nil _ _) rfl rfl rfl ?_
                intro s262 hH'
                replace hH : Hp sb s F0 s262 [Ck.ol OS137 137 A185 c185 x185, Ck.ov b252 [.int .i64 u250.1, .int .i64 u250.2.1, .int .i64 u250.2.2.1, .int .i64 u250.2.2.2.1, .int .i64 u250.2.2.2.2.1, .slice A251 u250.2.2.2.2.2.length c251] 139, Ck.ov b257 [.int .i64 u250.2.1, .int .i64 u250.2.2.1, .int .i64 u250.2.2.2.1, .int .i64 u250.2.2.2.2.1, .slice A261 u260.length c261] 137, Ck.ol OI 3 A261 c261 u260] := hH'
                clear hH'
                try dsimp only [putL, setL, evL, getL]
                refine HL_nil ?_
                refine hK259 _ _ ?_
                refine HT_region ?_
                refine HL_cons rfl ?_
                refine o_move ?_
                try dsimp only [putL, setL, evL, getL]
                refine HL_cons rfl ?_
                refine o_loads' [.int .i64 u250.2.1, .int .i64 u250.2.2.1, .int .i64 u250.2.2.2.1, .int .i64 u250.2.2.2.2.1, .slice A261 u260.length c261] rfl Try.underlying137 rfl tI137 rfl (hH.partv 2 rfl (0) [.int .i64 u250.2.1, .int .i64 u250.2.2.1, .int .i64 u250.2.2.2.1, .int .i64 u250.2.2.2.2.1, .slice A261 u260.length c261] rfl) ?_
                try dsimp only [putL, setL, evL, getL]
                replace hH := hH.conv [3] (by decide) (d := Ck.el OS137 [.int .i64 u250.2.1, .int .i64 u250.2.2.1, .int .i64 u250.2.2.2.1, .int .i64 u250.2.2.2.2.1, .slice A261 u260.length c261] (u250.2.1, u250.2.2.1, u250.2.2.2.1, u250.2.2.2.2.1, u260)) (Ent.pair (v1 := [.int .i64 u250.2.1]) (v2 := [.int .i64 u250.2.2.1, .int .i64 u250.2.2.2.1, .int .i64 u250.2.2.2.2.1, .slice A261 u260.length c261]) (x1 := u250.2.1) (x2 := (u250.2.2.1, (u250.2.2.2.1, (u250.2.2.2.2.1, u260)))) (Ent.flat rfl) (Ent.pair (v1 := [.int .i64 u250.2.2.1]) (v2 := [.int .i64 u250.2.2.2.1, .int .i64 u250.2.2.2.2.1, .slice A261 u260.length c261]) (x1 := u250.2.2.1) (x2 := (u250.2.2.2.1, (u250.2.2.2.2.1, u260))) (Ent.flat rfl) (Ent.pair (v1 := [.int .i64 u250.2.2.2.1]) (v2 := [.int .i64 u250.2.2.2.2.1, .slice A261 u260.length c261]) (x1 := u250.2.2.2.1) (x2 := (u250.2.2.2.2.1, u260)) (Ent.flat rfl) (Ent.pair (v1 := [.int .i64 u250.2.2.2.2.1]) (v2 := [.slice A261 u260.length c261]) (x1 := u250.2.2.2.2.1) (x2 := u260) (Ent.flat rfl) Ent.sl))))
                dsimp only [addC, setC, rmC, selC, getC] at hH
                refine HL_cons rfl ?_
                refine o_litD (K := KS137) (O := OS137) (ca := #[.int .i64 u250.2.1, .int .i64 u250.2.2.1, .int .i64 u250.2.2.2.1, .int .i64 u250.2.2.2.2.1, .slice A261 u260.length c261]) [[.int .i64 u250.2.1, .int .i64 u250.2.2.1, .int .i64 u250.2.2.2.1, .int .i64 u250.2.2.2.2.1, .slice A261 u260.length c261]] [(u250.2.1, u250.2.2.1, u250.2.2.2.1, u250.2.2.2.2.1, u260)] hH [4] (by decide) rfl Try.underlying74 tI137 rfl (by decide) rfl rfl rfl rfl rfl rfl ?_
                intro A263 s263 hH' hG
                replace hH : Hp sb s F0 s263 [Ck.ol OS137 137 A185 c185 x185, Ck.ov b252 [.int .i64 u250.1, .int .i64 u250.2.1, .int .i64 u250.2.2.1, .int .i64 u250.2.2.2.1, .int .i64 u250.2.2.2.2.1, .slice A251 u250.2.2.2.2.2.length c251] 139, Ck.ov b257 [.int .i64 u250.2.1, .int .i64 u250.2.2.1, .int .i64 u250.2.2.2.1, .int .i64 u250.2.2.2.2.1, .slice A261 u260.length c261] 137, Ck.emp, Ck.emp, Ck.ol OS137 137 A263 1 [(u250.2.1, u250.2.2.1, u250.2.2.2.1, u250.2.2.2.2.1, u260)]] := hH'
                clear hH' hG
                try dsimp only [putL, setL, evL, getL]
                obtain ⟨x264, hx264, H⟩ := headE H
                refine HL_cons rfl ?_
                refine o_appD (K := KS137) (n := 2513169434916) (A := A185) (c := c185) (xs := x185) (ys := [(u250.2.1, u250.2.2.1, u250.2.2.2.1, u250.2.2.2.2.1, u260)]) (B := A263) (c2 := 1) hH 0 5 (by decide) rfl rfl rfl rfl rfl Try.underlying74 tI137 rfl (by decide) (by decide) (by decide) hx264 ?_
                intro A264 c264 s264 hH'
                replace hH : Hp sb s F0 s264 [Ck.ol OS137 137 A264 c264 x264, Ck.ov b252 [.int .i64 u250.1, .int .i64 u250.2.1, .int .i64 u250.2.2.1, .int .i64 u250.2.2.2.1, .int .i64 u250.2.2.2.2.1, .slice A251 u250.2.2.2.2.2.length c251] 139, Ck.ov b257 [.int .i64 u250.2.1, .int .i64 u250.2.2.1, .int .i64 u250.2.2.2.1, .int .i64 u250.2.2.2.2.1, .slice A261 u260.length c261] 137, Ck.emp, Ck.emp, Ck.emp] := hH'
                clear hH'
                try dsimp only [putL, setL, evL, getL]
                refine HL_cons rfl ?_
                refine o_assign ?_
                try dsimp only [putL, setL, evL, getL]
                refine HL_nil ?_
                exact hK231 _ _ ⟨x264, A264, c264, H, rfl, hH.sel [0] (by decide)⟩
              · replace H := iteF hb255 H
                refine HT_false (congrArg Value.bool hb255) ?_
                refine HT_skip ?_
                exact hK231 _ _ ⟨x185, A185, c185, H, rfl, hH.sel [0] (by decide)⟩
            · rintro l' s265 ⟨x248, A248, c248, H, hl, hH⟩
              generalize getL l' 8 = j8, getL l' 9 = j9, getL l' 23 = j23, getL l' 24 = j24, getL l' 25 = j25, getL l' 26 = j26, getL l' 27 = j27, getL l' 28 = j28, getL l' 29 = j29, getL l' 30 = j30, getL l' 31 = j31, getL l' 32 = j32, getL l' 33 = j33, getL l' 34 = j34, getL l' 35 = j35, getL l' 36 = j36, getL l' 37 = j37, getL l' 38 = j38 at hl
              subst hl
              replace H := hG231 _ H
              try dsimp only at H
              refine HT_region ?_
              refine HL_cons rfl ?_
              refine o_bin rfl rfl rfl ?_
              try dsimp only [putL, setL, evL, getL]
              refine HL_cons rfl ?_
              refine o_move ?_
              try dsimp only [putL, setL, evL, getL]
              refine HL_nil ?_
              exact hK227 _ _ ⟨kf, Nat.lt_succ_self kf, x248, A248, c248, IntKind.i64.wrap (x186 + 1), H, rfl, hH⟩
          · replace H := iteF hb230 H
            refine HT_false (congrArg Value.bool hb230) ?_
            refine HT_exit ?_
            exact hK26 _ _ ⟨x185, A185, c185, H, rfl, hH⟩
      · rintro l' s266 ⟨x146, A146, c146, H, hl, hH⟩
        generalize getL l' 8 = j8, getL l' 9 = j9, getL l' 21 = j21, getL l' 22 = j22, getL l' 23 = j23, getL l' 24 = j24, getL l' 25 = j25, getL l' 26 = j26, getL l' 27 = j27, getL l' 28 = j28, getL l' 29 = j29, getL l' 30 = j30, getL l' 31 = j31, getL l' 32 = j32, getL l' 33 = j33, getL l' 34 = j34, getL l' 35 = j35, getL l' 36 = j36, getL l' 37 = j37, getL l' 38 = j38, getL l' 39 = j39 at hl
        subst hl
        replace H := hG26 _ H
        try dsimp only at H
        refine hK24 _ _ ?_
        refine HT_seq_k ?_
        intro K267 hK267
        refine HT_region ?_
        refine HL_cons rfl ?_
        refine o_move ?_
        try dsimp only [putL, setL, evL, getL]
        refine HL_cons rfl ?_
        refine o_assign ?_
        try dsimp only [putL, setL, evL, getL]
        refine HL_cons rfl ?_
        refine o_assign ?_
        try dsimp only [putL, setL, evL, getL]
        refine HL_nil ?_
        refine hK267 _ _ ?_
        refine HT_ret ?_
        obtain rfl := Option.some.inj (show some _ = some r from H)
        exact hQr _ _ [.slice A146 x146.length c146, .bool true] ⟨rfl, rfl, trivial⟩ ⟨A146, c146, rfl, hH⟩
def laws_eqIntS.l1 (p0 : List (Int)) (p1 : List (Int)) : Nat → Int → Option (Lo Unit Bool)
  | 0, _ => none
  | kf + 1, x48 => if (decide (x48 < (p0.length : Int))) = true then ((rd? p0 x48).bind fun u65 => (rd? p1 x48).bind fun u66 => if (u65 != u66) = true then ((some false).bind fun z => some (Lo.ret z)) else (laws_eqIntS.l1 p0 p1 kf (IntKind.i64.wrap (x48 + 1)))) else (some (Lo.go ()))
def laws_eqIntS.f (p0 : List (Int)) (p1 : List (Int)) : Option Bool := if ((p0.length : Int) != (p1.length : Int)) = true then (some false) else ((laws_eqIntS.l1 p0 p1 ((((p0.length : Int)) - (0)).toNat + 2) 0).bind fun (o : Lo Unit Bool) => match o with | .go () => (some true) | .ret z => some z)
def laws_eqIntS.post (sb s : St) (F0 : Fp) (r : Bool) : Value → St → Prop := fun v s' => v = .bool r ∧ Hp sb s F0 s' []
set_option maxRecDepth 100000 in
set_option maxHeartbeats 4000000 in
theorem laws_eqIntS.ok (sb s : St) (F0 : Fp) (A0p : Option Addr) (c0p : Nat) (p0 : List (Int)) (A1p : Option Addr) (c1p : Nat) (p1 : List (Int)) (HRp0 : Rd KI sb A0p c0p p0) (HRp1 : Rd KI sb A1p c1p p1) (hH : Hp sb s F0 s []) (r : Bool) (H : laws_eqIntS.f p0 p1 = some r) : GCall Try.prog 18 #[.slice A0p p0.length c0p, .slice A1p p1.length c1p] s (laws_eqIntS.post sb s F0 r) := by
  refine GCall_ofk [.tmp 4] [.slice A0p p0.length c0p, .slice A1p p1.length c1p, undef, undef, undef, undef, undef, undef, undef, undef, undef, undef, undef, undef, undef, undef, undef, undef, undef, undef, undef, undef, undef, undef, undef, undef] Try.func18 rfl rfl rfl ?_
  intro w Q hQr hQn hQp
  replace H := topE H
  unfold laws_eqIntS.f at H
  refine HT_seq_k ?_
  intro K1 hK1
  refine HT_region ?_
  refine HL_cons rfl ?_
  refine o_assign ?_
  try dsimp only [putL, setL, evL, getL]
  refine HL_nil ?_
  refine hK1 _ _ ?_
  refine HT_seq_k ?_
  intro K2 hK2
  refine HT_seq_k ?_
  intro K3 hK3
  refine HT_region ?_
  refine HL_cons rfl ?_
  refine o_move ?_
  try dsimp only [putL, setL, evL, getL]
  refine HL_cons rfl ?_
  refine o_len rfl Try.underlying22 ?_
  try dsimp only [putL, setL, evL, getL]
  refine HL_cons rfl ?_
  refine o_move ?_
  try dsimp only [putL, setL, evL, getL]
  refine HL_cons rfl ?_
  refine o_len rfl Try.underlying22 ?_
  try dsimp only [putL, setL, evL, getL]
  refine HL_cons rfl ?_
  refine o_bin rfl rfl rfl ?_
  try dsimp only [putL, setL, evL, getL]
  refine HL_nil ?_
  refine hK3 _ _ ?_
  rcases Bool.eq_false_or_eq_true ((p0.length : Int) != (p1.length : Int)) with hb4 | hb4
  · replace H := iteT hb4 H
    refine HT_true (congrArg Value.bool hb4) ?_
    refine HT_seq_k ?_
    intro K5 hK5
    refine HT_region ?_
    refine HL_cons rfl ?_
    refine o_assign ?_
    try dsimp only [putL, setL, evL, getL]
    refine HL_nil ?_
    refine hK5 _ _ ?_
    refine HT_ret ?_
    obtain rfl := Option.some.inj (show some _ = some r from H)
    exact hQr _ _ [.bool false] ⟨rfl, trivial⟩ ⟨rfl, hH⟩
  · replace H := iteF hb4 H
    refine HT_false (congrArg Value.bool hb4) ?_
    refine HT_skip ?_
    refine hK2 _ _ ?_
    refine HT_seq_k ?_
    intro K6 hK6
    refine HT_seq_k ?_
    intro K7 hK7
    refine HT_region ?_
    refine HL_cons rfl ?_
    refine o_assign ?_
    try dsimp only [putL, setL, evL, getL]
    refine HL_nil ?_
    refine hK7 _ _ ?_
    refine joinH H fun G8 hG8 H => ?_
    refine HT_toK (fun l' s' => G8 (.go ()) = some r ∧ l' = [.slice A0p p0.length c0p, .slice A1p p1.length c1p, undef, undef, getL l' 4, getL l' 5, .slice A0p p0.length c0p, .int .i64 (p0.length : Int), .slice A1p p1.length c1p, .int .i64 (p1.length : Int), .bool ((p0.length : Int) != (p1.length : Int)), getL l' 11, getL l' 12, getL l' 13, getL l' 14, getL l' 15, getL l' 16, getL l' 17, getL l' 18, getL l' 19, getL l' 20, getL l' 21, getL l' 22, getL l' 23, getL l' 24, getL l' 25] ∧ Hp sb s F0 s' []) ?_ ?_
    · intro K8 hK8
      refine HT_block ?_
      refine HT_loopK (fun kf l' s' => ∃ (x48 : Int), (laws_eqIntS.l1 p0 p1 kf x48).bind G8 = some r ∧ l' = [.slice A0p p0.length c0p, .slice A1p p1.length c1p, undef, undef, getL l' 4, .int .i64 x48, .slice A0p p0.length c0p, .int .i64 (p0.length : Int), .slice A1p p1.length c1p, .int .i64 (p1.length : Int), .bool ((p0.length : Int) != (p1.length : Int)), getL l' 11, getL l' 12, getL l' 13, getL l' 14, getL l' 15, getL l' 16, getL l' 17, getL l' 18, getL l' 19, getL l' 20, getL l' 21, getL l' 22, getL l' 23, getL l' 24, getL l' 25] ∧ Hp sb s F0 s' []) ((((p0.length : Int)) - (0)).toNat + 2) ⟨0, H, rfl, hH⟩ ?_
      rintro kf l' s59 ⟨x48, H, hl, hH⟩ K59 hK59
      generalize getL l' 4 = j4, getL l' 11 = j11, getL l' 12 = j12, getL l' 13 = j13, getL l' 14 = j14, getL l' 15 = j15, getL l' 16 = j16, getL l' 17 = j17, getL l' 18 = j18, getL l' 19 = j19, getL l' 20 = j20, getL l' 21 = j21, getL l' 22 = j22, getL l' 23 = j23, getL l' 24 = j24, getL l' 25 = j25 at hl
      subst hl
      cases kf with
      | zero => simp [laws_eqIntS.l1] at H
      | succ kf =>
        rw [laws_eqIntS.l1] at H
        refine HT_seq_k ?_
        intro K60 hK60
        refine HT_seq_k ?_
        intro K61 hK61
        refine HT_region ?_
        refine HL_cons rfl ?_
        refine o_move ?_
        try dsimp only [putL, setL, evL, getL]
        refine HL_cons rfl ?_
        refine o_move ?_
        try dsimp only [putL, setL, evL, getL]
        refine HL_cons rfl ?_
        refine o_len rfl Try.underlying22 ?_
        try dsimp only [putL, setL, evL, getL]
        refine HL_cons rfl ?_
        refine o_bin rfl rfl rfl ?_
        try dsimp only [putL, setL, evL, getL]
        refine HL_nil ?_
        refine hK61 _ _ ?_
        rcases Bool.eq_false_or_eq_true (decide (x48 < (p0.length : Int))) with hb62 | hb62
        · replace H := iteT hb62 H
          refine HT_true (congrArg Value.bool hb62) ?_
          refine HT_skip ?_
          refine hK60 _ _ ?_
          refine HT_seq_k ?_
          intro K63 hK63
          refine HT_block ?_
          refine HT_seq_k ?_
          intro K64 hK64
          refine HK_draw (fun s' => Gro s59 s') 10 hMix ?_
          have hR := Gro.refl s59
          have hH0 := hH
          refine HK_readP 0 (v := .slice A0p p0.length c0p) rfl (by kernel_rfl) (fun c l s h => hQp c l s h) rfl (fun s' K hK => ?_) rfl rfl (fun _ => hR) ?_
          · refine o_move ?_
            exact hK
          try dsimp only [putL, setL, evL, getL]
          refine HK_readP 1 (v := .int .i64 x48) rfl (by kernel_rfl) (fun c l s h => hQp c l s h) rfl (fun s' K hK => ?_) rfl rfl (fun _ => hR) ?_
          · refine o_move ?_
            exact hK
          try dsimp only [putL, setL, evL, getL]
          obtain ⟨u65, hu65, H⟩ := headE H
          obtain ⟨b65, o65, cs65, hr65, hh65, hel65⟩ := Rd.elb HRp0 hu65
          obtain rfl := hr65
          refine HK_readP 2 (v := .pointer (some ⟨b65, o65, none⟩)) rfl (by kernel_rfl) (fun c l s h => hQp c l s h) rfl (fun s' K hK => ?_) rfl rfl (fun _ => hR) ?_
          · refine hel65 s' rfl rfl Try.underlying22 tI3 ?_
            exact hK
          try dsimp only [putL, setL, evL, getL]
          refine HK_read 3 (v := .int .i64 u65) rfl (by kernel_rfl) (fun c l s h => hQp c l s h) rfl (fun s' hR' K hK => ?_) rfl rfl hR ?_
          · refine o_load' rfl Try.underlying3 rfl ((hh65 (hH0.bs.mono.trans hR'.mono)) 0 _ rfl) ?_
            exact hK
          try dsimp only [putL, setL, evL, getL]
          refine HK_readP 4 (v := .slice A1p p1.length c1p) rfl (by kernel_rfl) (fun c l s h => hQp c l s h) rfl (fun s' K hK => ?_) rfl rfl (fun _ => hR) ?_
          · refine o_move ?_
            exact hK
          try dsimp only [putL, setL, evL, getL]
          refine HK_readP 5 (v := .int .i64 x48) rfl (by kernel_rfl) (fun c l s h => hQp c l s h) rfl (fun s' K hK => ?_) rfl rfl (fun _ => hR) ?_
          · refine o_move ?_
            exact hK
          try dsimp only [putL, setL, evL, getL]
          obtain ⟨u66, hu66, H⟩ := headE H
          obtain ⟨b66, o66, cs66, hr66, hh66, hel66⟩ := Rd.elb HRp1 hu66
          obtain rfl := hr66
          refine HK_readP 6 (v := .pointer (some ⟨b66, o66, none⟩)) rfl (by kernel_rfl) (fun c l s h => hQp c l s h) rfl (fun s' K hK => ?_) rfl rfl (fun _ => hR) ?_
          · refine hel66 s' rfl rfl Try.underlying22 tI3 ?_
            exact hK
          try dsimp only [putL, setL, evL, getL]
          refine HK_read 7 (v := .int .i64 u66) rfl (by kernel_rfl) (fun c l s h => hQp c l s h) rfl (fun s' hR' K hK => ?_) rfl rfl hR ?_
          · refine o_load' rfl Try.underlying3 rfl ((hh66 (hH0.bs.mono.trans hR'.mono)) 0 _ rfl) ?_
            exact hK
          try dsimp only [putL, setL, evL, getL]
          refine HK_readP 8 (v := .bool (u65 != u66)) rfl (by kernel_rfl) (fun c l s h => hQp c l s h) rfl (fun s' K hK => ?_) rfl rfl (fun _ => hR) ?_
          · refine o_bin rfl rfl rfl ?_
            exact hK
          try dsimp only [putL, setL, evL, getL]
          refine HK_done (fun _ => hR) (by kernel_rfl) ?_
          refine hK64 _ _ ?_
          rcases Bool.eq_false_or_eq_true (u65 != u66) with hb67 | hb67
          · replace H := iteT hb67 H
            refine HT_true (congrArg Value.bool hb67) ?_
            refine HT_seq_k ?_
            intro K68 hK68
            refine HT_region ?_
            refine HL_cons rfl ?_
            refine o_assign ?_
            try dsimp only [putL, setL, evL, getL]
            refine HL_nil ?_
            refine hK68 _ _ ?_
            refine HT_ret ?_
            replace H := escH (fun z hz => hG8 _ hz) H
            obtain rfl := Option.some.inj (show some _ = some r from H)
            exact hQr _ _ [.bool false] ⟨rfl, trivial⟩ ⟨rfl, hH⟩
          · replace H := iteF hb67 H
            refine HT_false (congrArg Value.bool hb67) ?_
            refine HT_skip ?_
            refine hK63 _ _ ?_
            refine HT_region ?_
            refine HL_cons rfl ?_
            refine o_move ?_
            try dsimp only [putL, setL, evL, getL]
            refine HL_cons rfl ?_
            refine o_bin rfl rfl rfl ?_
            try dsimp only [putL, setL, evL, getL]
            refine HL_cons rfl ?_
            refine o_assign ?_
            try dsimp only [putL, setL, evL, getL]
            refine HL_nil ?_
            exact hK59 _ _ ⟨kf, Nat.lt_succ_self kf, IntKind.i64.wrap (x48 + 1), H, rfl, hH⟩
        · replace H := iteF hb62 H
          refine HT_false (congrArg Value.bool hb62) ?_
          refine HT_exit ?_
          exact hK8 _ _ ⟨H, rfl, hH⟩
    · rintro l' s69 ⟨H, hl, hH⟩
      generalize getL l' 4 = j4, getL l' 5 = j5, getL l' 11 = j11, getL l' 12 = j12, getL l' 13 = j13, getL l' 14 = j14, getL l' 15 = j15, getL l' 16 = j16, getL l' 17 = j17, getL l' 18 = j18, getL l' 19 = j19, getL l' 20 = j20, getL l' 21 = j21, getL l' 22 = j22, getL l' 23 = j23, getL l' 24 = j24, getL l' 25 = j25 at hl
      subst hl
      replace H := hG8 _ H
      try dsimp only at H
      refine hK6 _ _ ?_
      refine HT_seq_k ?_
      intro K70 hK70
      refine HT_region ?_
      refine HL_cons rfl ?_
      refine o_assign ?_
      try dsimp only [putL, setL, evL, getL]
      refine HL_nil ?_
      refine hK70 _ _ ?_
      refine HT_ret ?_
      obtain rfl := Option.some.inj (show some _ = some r from H)
      exact hQr _ _ [.bool true] ⟨rfl, trivial⟩ ⟨rfl, hH⟩
def laws_eqEvent.f (p0_0 : Int) (p0_1 : Int) (p0_2 : Int) (p0_3 : Int) (p0_4 : List (Int)) (p1_0 : Int) (p1_1 : Int) (p1_2 : Int) (p1_3 : Int) (p1_4 : List (Int)) : Option Bool := if (p0_0 != p1_0) = true then (some false) else (if (p0_1 != p1_1) = true then (some false) else (if (p0_2 != p1_2) = true then (some false) else (if (p0_3 != p1_3) = true then (some false) else ((laws_eqIntS.f p0_4 p1_4).bind fun u22 => if (!u22) = true then (some false) else (some true)))))
def laws_eqEvent.post (sb s : St) (F0 : Fp) (r : Bool) : Value → St → Prop := fun v s' => v = .bool r ∧ Hp sb s F0 s' []
set_option maxRecDepth 100000 in
set_option maxHeartbeats 4000000 in
theorem laws_eqEvent.ok (sb s : St) (F0 : Fp) (p0_0 : Int) (p0_1 : Int) (p0_2 : Int) (p0_3 : Int) (A0_4p : Option Addr) (c0_4p : Nat) (p0_4 : List (Int)) (p1_0 : Int) (p1_1 : Int) (p1_2 : Int) (p1_3 : Int) (A1_4p : Option Addr) (c1_4p : Nat) (p1_4 : List (Int)) (HRp0_4 : Rd KI sb A0_4p c0_4p p0_4) (HRp1_4 : Rd KI sb A1_4p c1_4p p1_4) (hH : Hp sb s F0 s []) (r : Bool) (H : laws_eqEvent.f p0_0 p0_1 p0_2 p0_3 p0_4 p1_0 p1_1 p1_2 p1_3 p1_4 = some r) : GCall Try.prog 127 #[.agg #[.int .i64 p0_0, .int .i64 p0_1, .int .i64 p0_2, .int .i64 p0_3, .slice A0_4p p0_4.length c0_4p], .agg #[.int .i64 p1_0, .int .i64 p1_1, .int .i64 p1_2, .int .i64 p1_3, .slice A1_4p p1_4.length c1_4p]] s (laws_eqEvent.post sb s F0 r) := by
  refine GCall_ofk [.tmp 4] [.agg #[.int .i64 p0_0, .int .i64 p0_1, .int .i64 p0_2, .int .i64 p0_3, .slice A0_4p p0_4.length c0_4p], .agg #[.int .i64 p1_0, .int .i64 p1_1, .int .i64 p1_2, .int .i64 p1_3, .slice A1_4p p1_4.length c1_4p], undef, undef, undef, undef, undef, undef, undef, undef, undef, undef, undef, undef, undef, undef, undef, undef, undef, undef, undef, undef, undef, undef, undef, undef, undef, undef, undef, undef, undef] Try.func127 rfl rfl rfl ?_
  intro w Q hQr hQn hQp
  replace H := topE H
  unfold laws_eqEvent.f at H
  refine HT_seq_k ?_
  intro K1 hK1
  refine HT_region ?_
  refine HL_cons rfl ?_
  refine o_boxH hH rfl ?_
  intro b2 s2 hH' hG
  replace hH : Hp sb s F0 s2 [Ck.ov b2 [.int .i64 p0_0, .int .i64 p0_1, .int .i64 p0_2, .int .i64 p0_3, .slice A0_4p p0_4.length c0_4p] 137] := hH'
  clear hH' hG
  try dsimp only [putL, setL, evL, getL]
  refine HL_cons rfl ?_
  refine o_boxH hH rfl ?_
  intro b3 s3 hH' hG
  replace hH : Hp sb s F0 s3 [Ck.ov b2 [.int .i64 p0_0, .int .i64 p0_1, .int .i64 p0_2, .int .i64 p0_3, .slice A0_4p p0_4.length c0_4p] 137, Ck.ov b3 [.int .i64 p1_0, .int .i64 p1_1, .int .i64 p1_2, .int .i64 p1_3, .slice A1_4p p1_4.length c1_4p] 137] := hH'
  clear hH' hG
  try dsimp only [putL, setL, evL, getL]
  refine HL_cons rfl ?_
  refine o_assign ?_
  try dsimp only [putL, setL, evL, getL]
  refine HL_nil ?_
  refine hK1 _ _ ?_
  refine HT_seq_k ?_
  intro K4 hK4
  refine HT_seq_k ?_
  intro K5 hK5
  refine HT_region ?_
  refine HL_cons rfl ?_
  refine o_faddr' (ft := 3) (off := 0) rfl Try.underlying137 rfl tI3 (by decide) ?_
  try dsimp only [putL, setL, evL, getL]
  refine HL_cons rfl ?_
  refine o_load' rfl Try.underlying3 rfl (hH.hasv 0 rfl rfl) ?_
  try dsimp only [putL, setL, evL, getL]
  refine HL_cons rfl ?_
  refine o_faddr' (ft := 3) (off := 0) rfl Try.underlying137 rfl tI3 (by decide) ?_
  try dsimp only [putL, setL, evL, getL]
  refine HL_cons rfl ?_
  refine o_load' rfl Try.underlying3 rfl (hH.hasv 1 rfl rfl) ?_
  try dsimp only [putL, setL, evL, getL]
  refine HL_cons rfl ?_
  refine o_bin rfl rfl rfl ?_
  try dsimp only [putL, setL, evL, getL]
  refine HL_nil ?_
  refine hK5 _ _ ?_
  rcases Bool.eq_false_or_eq_true (p0_0 != p1_0) with hb6 | hb6
  · replace H := iteT hb6 H
    refine HT_true (congrArg Value.bool hb6) ?_
    refine HT_seq_k ?_
    intro K7 hK7
    refine HT_region ?_
    refine HL_cons rfl ?_
    refine o_assign ?_
    try dsimp only [putL, setL, evL, getL]
    refine HL_nil ?_
    refine hK7 _ _ ?_
    refine HT_ret ?_
    obtain rfl := Option.some.inj (show some _ = some r from H)
    exact hQr _ _ [.bool false] ⟨rfl, trivial⟩ ⟨rfl, hH.sel [] (by decide)⟩
  · replace H := iteF hb6 H
    refine HT_false (congrArg Value.bool hb6) ?_
    refine HT_skip ?_
    refine hK4 _ _ ?_
    refine HT_seq_k ?_
    intro K8 hK8
    refine HT_seq_k ?_
    intro K9 hK9
    refine HT_region ?_
    refine HL_cons rfl ?_
    refine o_faddr' (ft := 3) (off := 1) rfl Try.underlying137 rfl tI3 (by decide) ?_
    try dsimp only [putL, setL, evL, getL]
    refine HL_cons rfl ?_
    refine o_load' rfl Try.underlying3 rfl (hH.hasv 0 rfl rfl) ?_
    try dsimp only [putL, setL, evL, getL]
    refine HL_cons rfl ?_
    refine o_faddr' (ft := 3) (off := 1) rfl Try.underlying137 rfl tI3 (by decide) ?_
    try dsimp only [putL, setL, evL, getL]
    refine HL_cons rfl ?_
    refine o_load' rfl Try.underlying3 rfl (hH.hasv 1 rfl rfl) ?_
    try dsimp only [putL, setL, evL, getL]
    refine HL_cons rfl ?_
    refine o_bin rfl rfl rfl ?_
    try dsimp only [putL, setL, evL, getL]
    refine HL_nil ?_
    refine hK9 _ _ ?_
    rcases Bool.eq_false_or_eq_true (p0_1 != p1_1) with hb10 | hb10
    · replace H := iteT hb10 H
      refine HT_true (congrArg Value.bool hb10) ?_
      refine HT_seq_k ?_
      intro K11 hK11
      refine HT_region ?_
      refine HL_cons rfl ?_
      refine o_assign ?_
      try dsimp only [putL, setL, evL, getL]
      refine HL_nil ?_
      refine hK11 _ _ ?_
      refine HT_ret ?_
      obtain rfl := Option.some.inj (show some _ = some r from H)
      exact hQr _ _ [.bool false] ⟨rfl, trivial⟩ ⟨rfl, hH.sel [] (by decide)⟩
    · replace H := iteF hb10 H
      refine HT_false (congrArg Value.bool hb10) ?_
      refine HT_skip ?_
      refine hK8 _ _ ?_
      refine HT_seq_k ?_
      intro K12 hK12
      refine HT_seq_k ?_
      intro K13 hK13
      refine HT_region ?_
      refine HL_cons rfl ?_
      refine o_faddr' (ft := 3) (off := 2) rfl Try.underlying137 rfl tI3 (by decide) ?_
      try dsimp only [putL, setL, evL, getL]
      refine HL_cons rfl ?_
      refine o_load' rfl Try.underlying3 rfl (hH.hasv 0 rfl rfl) ?_
      try dsimp only [putL, setL, evL, getL]
      refine HL_cons rfl ?_
      refine o_faddr' (ft := 3) (off := 2) rfl Try.underlying137 rfl tI3 (by decide) ?_
      try dsimp only [putL, setL, evL, getL]
      refine HL_cons rfl ?_
      refine o_load' rfl Try.underlying3 rfl (hH.hasv 1 rfl rfl) ?_
      try dsimp only [putL, setL, evL, getL]
      refine HL_cons rfl ?_
      refine o_bin rfl rfl rfl ?_
      try dsimp only [putL, setL, evL, getL]
      refine HL_nil ?_
      refine hK13 _ _ ?_
      rcases Bool.eq_false_or_eq_true (p0_2 != p1_2) with hb14 | hb14
      · replace H := iteT hb14 H
        refine HT_true (congrArg Value.bool hb14) ?_
        refine HT_seq_k ?_
        intro K15 hK15
        refine HT_region ?_
        refine HL_cons rfl ?_
        refine o_assign ?_
        try dsimp only [putL, setL, evL, getL]
        refine HL_nil ?_
        refine hK15 _ _ ?_
        refine HT_ret ?_
        obtain rfl := Option.some.inj (show some _ = some r from H)
        exact hQr _ _ [.bool false] ⟨rfl, trivial⟩ ⟨rfl, hH.sel [] (by decide)⟩
      · replace H := iteF hb14 H
        refine HT_false (congrArg Value.bool hb14) ?_
        refine HT_skip ?_
        refine hK12 _ _ ?_
        refine HT_seq_k ?_
        intro K16 hK16
        refine HT_seq_k ?_
        intro K17 hK17
        refine HT_region ?_
        refine HL_cons rfl ?_
        refine o_faddr' (ft := 3) (off := 3) rfl Try.underlying137 rfl tI3 (by decide) ?_
        try dsimp only [putL, setL, evL, getL]
        refine HL_cons rfl ?_
        refine o_load' rfl Try.underlying3 rfl (hH.hasv 0 rfl rfl) ?_
        try dsimp only [putL, setL, evL, getL]
        refine HL_cons rfl ?_
        refine o_faddr' (ft := 3) (off := 3) rfl Try.underlying137 rfl tI3 (by decide) ?_
        try dsimp only [putL, setL, evL, getL]
        refine HL_cons rfl ?_
        refine o_load' rfl Try.underlying3 rfl (hH.hasv 1 rfl rfl) ?_
        try dsimp only [putL, setL, evL, getL]
        refine HL_cons rfl ?_
        refine o_bin rfl rfl rfl ?_
        try dsimp only [putL, setL, evL, getL]
        refine HL_nil ?_
        refine hK17 _ _ ?_
        rcases Bool.eq_false_or_eq_true (p0_3 != p1_3) with hb18 | hb18
        · replace H := iteT hb18 H
          refine HT_true (congrArg Value.bool hb18) ?_
          refine HT_seq_k ?_
          intro K19 hK19
          refine HT_region ?_
          refine HL_cons rfl ?_
          refine o_assign ?_
          try dsimp only [putL, setL, evL, getL]
          refine HL_nil ?_
          refine hK19 _ _ ?_
          refine HT_ret ?_
          obtain rfl := Option.some.inj (show some _ = some r from H)
          exact hQr _ _ [.bool false] ⟨rfl, trivial⟩ ⟨rfl, hH.sel [] (by decide)⟩
        · replace H := iteF hb18 H
          refine HT_false (congrArg Value.bool hb18) ?_
          refine HT_skip ?_
          refine hK16 _ _ ?_
          refine HT_seq_k ?_
          intro K20 hK20
          refine HT_seq_k ?_
          intro K21 hK21
          refine HT_region ?_
          refine HL_cons rfl ?_
          refine o_faddr' (ft := 22) (off := 4) rfl Try.underlying137 rfl tI22 (by decide) ?_
          try dsimp only [putL, setL, evL, getL]
          refine HL_cons rfl ?_
          refine o_load' rfl Try.underlying22 rfl (hH.hasv 0 rfl rfl) ?_
          try dsimp only [putL, setL, evL, getL]
          refine HL_cons rfl ?_
          refine o_faddr' (ft := 22) (off := 4) rfl Try.underlying137 rfl tI22 (by decide) ?_
          try dsimp only [putL, setL, evL, getL]
          refine HL_cons rfl ?_
          refine o_load' rfl Try.underlying22 rfl (hH.hasv 1 rfl rfl) ?_
          try dsimp only [putL, setL, evL, getL]
          obtain ⟨u22, hu22, H⟩ := headE H
          refine HL_cons rfl ?_
          refine o_call (args := #[.slice A0_4p p0_4.length c0_4p, .slice A1_4p p1_4.length c1_4p]) Try.func18 rfl rfl rfl (laws_eqIntS.ok sb s3 no A0_4p c0_4p p0_4 A1_4p c1_4p p1_4 HRp0_4 HRp1_4 (Hp.own hH.bs) _ hu22) ?_
          rintro _ s22 ⟨rfl, hD⟩
          replace hH := hH.back0 hD (Up.refl _ _ _)
          clear hD
          dsimp only [addC, setC, rmC, selC, getC] at hH
          try dsimp only [putL, setL, evL, getL]
          refine HL_cons rfl ?_
          refine o_not rfl ?_
          try dsimp only [putL, setL, evL, getL]
          refine HL_nil ?_
          refine hK21 _ _ ?_
          rcases Bool.eq_false_or_eq_true (!u22) with hb23 | hb23
          · replace H := iteT hb23 H
            refine HT_true (congrArg Value.bool hb23) ?_
            refine HT_seq_k ?_
            intro K24 hK24
            refine HT_region ?_
            refine HL_cons rfl ?_
            refine o_assign ?_
            try dsimp only [putL, setL, evL, getL]
            refine HL_nil ?_
            refine hK24 _ _ ?_
            refine HT_ret ?_
            obtain rfl := Option.some.inj (show some _ = some r from H)
            exact hQr _ _ [.bool false] ⟨rfl, trivial⟩ ⟨rfl, hH.sel [] (by decide)⟩
          · replace H := iteF hb23 H
            refine HT_false (congrArg Value.bool hb23) ?_
            refine HT_skip ?_
            refine hK20 _ _ ?_
            refine HT_seq_k ?_
            intro K25 hK25
            refine HT_region ?_
            refine HL_cons rfl ?_
            refine o_assign ?_
            try dsimp only [putL, setL, evL, getL]
            refine HL_nil ?_
            refine hK25 _ _ ?_
            refine HT_ret ?_
            obtain rfl := Option.some.inj (show some _ = some r from H)
            exact hQr _ _ [.bool true] ⟨rfl, trivial⟩ ⟨rfl, hH.sel [] (by decide)⟩
def laws_eqEventS.l1 (p0 : List ((Int) × (Int) × (Int) × (Int) × (List (Int)))) (p1 : List ((Int) × (Int) × (Int) × (Int) × (List (Int)))) : Nat → Int → Option (Lo Unit Bool)
  | 0, _ => none
  | kf + 1, x60 => if (decide (x60 < (p0.length : Int))) = true then ((rd? p0 x60).bind fun u80 => (rd? p1 x60).bind fun u82 => (laws_eqEvent.f u80.1 u80.2.1 u80.2.2.1 u80.2.2.2.1 u80.2.2.2.2 u82.1 u82.2.1 u82.2.2.1 u82.2.2.2.1 u82.2.2.2.2).bind fun u84 => if (!u84) = true then ((some false).bind fun z => some (Lo.ret z)) else (laws_eqEventS.l1 p0 p1 kf (IntKind.i64.wrap (x60 + 1)))) else (some (Lo.go ()))
def laws_eqEventS.f (p0 : List ((Int) × (Int) × (Int) × (Int) × (List (Int)))) (p1 : List ((Int) × (Int) × (Int) × (Int) × (List (Int)))) : Option Bool := if ((p0.length : Int) != (p1.length : Int)) = true then (some false) else ((laws_eqEventS.l1 p0 p1 ((((p0.length : Int)) - (0)).toNat + 2) 0).bind fun (o : Lo Unit Bool) => match o with | .go () => (some true) | .ret z => some z)
def laws_eqEventS.post (sb s : St) (F0 : Fp) (r : Bool) : Value → St → Prop := fun v s' => v = .bool r ∧ Hp sb s F0 s' []
set_option maxRecDepth 100000 in
set_option maxHeartbeats 4000000 in
theorem laws_eqEventS.ok (sb s : St) (F0 : Fp) (A0p : Option Addr) (c0p : Nat) (p0 : List ((Int) × (Int) × (Int) × (Int) × (List (Int)))) (A1p : Option Addr) (c1p : Nat) (p1 : List ((Int) × (Int) × (Int) × (Int) × (List (Int)))) (HRp0 : Rd KS137 sb A0p c0p p0) (HRp1 : Rd KS137 sb A1p c1p p1) (hH : Hp sb s F0 s []) (r : Bool) (H : laws_eqEventS.f p0 p1 = some r) : GCall Try.prog 60 #[.slice A0p p0.length c0p, .slice A1p p1.length c1p] s (laws_eqEventS.post sb s F0 r) := by
  refine GCall_ofk [.tmp 4] [.slice A0p p0.length c0p, .slice A1p p1.length c1p, undef, undef, undef, undef, undef, undef, undef, undef, undef, undef, undef, undef, undef, undef, undef, undef, undef, undef, undef, undef, undef, undef, undef, undef, undef] Try.func60 rfl rfl rfl ?_
  intro w Q hQr hQn hQp
  replace H := topE H
  unfold laws_eqEventS.f at H
  refine HT_seq_k ?_
  intro K1 hK1
  refine HT_region ?_
  refine HL_cons rfl ?_
  refine o_assign ?_
  try dsimp only [putL, setL, evL, getL]
  refine HL_nil ?_
  refine hK1 _ _ ?_
  refine HT_seq_k ?_
  intro K2 hK2
  refine HT_seq_k ?_
  intro K3 hK3
  refine HT_region ?_
  refine HL_cons rfl ?_
  refine o_move ?_
  try dsimp only [putL, setL, evL, getL]
  refine HL_cons rfl ?_
  refine o_len rfl Try.underlying74 ?_
  try dsimp only [putL, setL, evL, getL]
  refine HL_cons rfl ?_
  refine o_move ?_
  try dsimp only [putL, setL, evL, getL]
  refine HL_cons rfl ?_
  refine o_len rfl Try.underlying74 ?_
  try dsimp only [putL, setL, evL, getL]
  refine HL_cons rfl ?_
  refine o_bin rfl rfl rfl ?_
  try dsimp only [putL, setL, evL, getL]
  refine HL_nil ?_
  refine hK3 _ _ ?_
  rcases Bool.eq_false_or_eq_true ((p0.length : Int) != (p1.length : Int)) with hb4 | hb4
  · replace H := iteT hb4 H
    refine HT_true (congrArg Value.bool hb4) ?_
    refine HT_seq_k ?_
    intro K5 hK5
    refine HT_region ?_
    refine HL_cons rfl ?_
    refine o_assign ?_
    try dsimp only [putL, setL, evL, getL]
    refine HL_nil ?_
    refine hK5 _ _ ?_
    refine HT_ret ?_
    obtain rfl := Option.some.inj (show some _ = some r from H)
    exact hQr _ _ [.bool false] ⟨rfl, trivial⟩ ⟨rfl, hH⟩
  · replace H := iteF hb4 H
    refine HT_false (congrArg Value.bool hb4) ?_
    refine HT_skip ?_
    refine hK2 _ _ ?_
    refine HT_seq_k ?_
    intro K6 hK6
    refine HT_seq_k ?_
    intro K7 hK7
    refine HT_region ?_
    refine HL_cons rfl ?_
    refine o_assign ?_
    try dsimp only [putL, setL, evL, getL]
    refine HL_nil ?_
    refine hK7 _ _ ?_
    refine joinH H fun G8 hG8 H => ?_
    refine HT_toK (fun l' s' => G8 (.go ()) = some r ∧ l' = [.slice A0p p0.length c0p, .slice A1p p1.length c1p, undef, undef, getL l' 4, getL l' 5, .slice A0p p0.length c0p, .int .i64 (p0.length : Int), .slice A1p p1.length c1p, .int .i64 (p1.length : Int), .bool ((p0.length : Int) != (p1.length : Int)), getL l' 11, getL l' 12, getL l' 13, getL l' 14, getL l' 15, getL l' 16, getL l' 17, getL l' 18, getL l' 19, getL l' 20, getL l' 21, getL l' 22, getL l' 23, getL l' 24, getL l' 25, getL l' 26] ∧ Hp sb s F0 s' []) ?_ ?_
    · intro K8 hK8
      refine HT_block ?_
      refine HT_loopK (fun kf l' s' => ∃ (x60 : Int), (laws_eqEventS.l1 p0 p1 kf x60).bind G8 = some r ∧ l' = [.slice A0p p0.length c0p, .slice A1p p1.length c1p, undef, undef, getL l' 4, .int .i64 x60, .slice A0p p0.length c0p, .int .i64 (p0.length : Int), .slice A1p p1.length c1p, .int .i64 (p1.length : Int), .bool ((p0.length : Int) != (p1.length : Int)), getL l' 11, getL l' 12, getL l' 13, getL l' 14, getL l' 15, getL l' 16, getL l' 17, getL l' 18, getL l' 19, getL l' 20, getL l' 21, getL l' 22, getL l' 23, getL l' 24, getL l' 25, getL l' 26] ∧ Hp sb s F0 s' []) ((((p0.length : Int)) - (0)).toNat + 2) ⟨0, H, rfl, hH⟩ ?_
      rintro kf l' s74 ⟨x60, H, hl, hH⟩ K74 hK74
      generalize getL l' 4 = j4, getL l' 11 = j11, getL l' 12 = j12, getL l' 13 = j13, getL l' 14 = j14, getL l' 15 = j15, getL l' 16 = j16, getL l' 17 = j17, getL l' 18 = j18, getL l' 19 = j19, getL l' 20 = j20, getL l' 21 = j21, getL l' 22 = j22, getL l' 23 = j23, getL l' 24 = j24, getL l' 25 = j25, getL l' 26 = j26 at hl
      subst hl
      cases kf with
      | zero => simp [laws_eqEventS.l1] at H
      | succ kf =>
        rw [laws_eqEventS.l1] at H
        refine HT_seq_k ?_
        intro K75 hK75
        refine HT_seq_k ?_
        intro K76 hK76
        refine HT_region ?_
        refine HL_cons rfl ?_
        refine o_move ?_
        try dsimp only [putL, setL, evL, getL]
        refine HL_cons rfl ?_
        refine o_move ?_
        try dsimp only [putL, setL, evL, getL]
        refine HL_cons rfl ?_
        refine o_len rfl Try.underlying74 ?_
        try dsimp only [putL, setL, evL, getL]
        refine HL_cons rfl ?_
        refine o_bin rfl rfl rfl ?_
        try dsimp only [putL, setL, evL, getL]
        refine HL_nil ?_
        refine hK76 _ _ ?_
        rcases Bool.eq_false_or_eq_true (decide (x60 < (p0.length : Int))) with hb77 | hb77
        · replace H := iteT hb77 H
          refine HT_true (congrArg Value.bool hb77) ?_
          refine HT_skip ?_
          refine hK75 _ _ ?_
          refine HT_seq_k ?_
          intro K78 hK78
          refine HT_block ?_
          refine HT_seq_k ?_
          intro K79 hK79
          refine HK_draw (fun s' => Gro s74 s') 11 hMix ?_
          have hR := Gro.refl s74
          have hH0 := hH
          refine HK_readP 0 (v := .slice A0p p0.length c0p) rfl (by kernel_rfl) (fun c l s h => hQp c l s h) rfl (fun s' K hK => ?_) rfl rfl (fun _ => hR) ?_
          · refine o_move ?_
            exact hK
          try dsimp only [putL, setL, evL, getL]
          refine HK_readP 1 (v := .int .i64 x60) rfl (by kernel_rfl) (fun c l s h => hQp c l s h) rfl (fun s' K hK => ?_) rfl rfl (fun _ => hR) ?_
          · refine o_move ?_
            exact hK
          try dsimp only [putL, setL, evL, getL]
          obtain ⟨u80, hu80, H⟩ := headE H
          obtain ⟨b80, o80, cs80, hr80, hh80, hel80⟩ := Rd.elb HRp0 hu80
          obtain ⟨_, _, rfl, rfl, ⟨_, _, rfl, rfl, ⟨_, _, rfl, rfl, ⟨_, _, rfl, rfl, ⟨A81, c81, rfl, D81⟩⟩⟩⟩⟩ := hr80
          refine HK_readP 2 (v := .pointer (some ⟨b80, o80, none⟩)) rfl (by kernel_rfl) (fun c l s h => hQp c l s h) rfl (fun s' K hK => ?_) rfl rfl (fun _ => hR) ?_
          · refine hel80 s' rfl rfl Try.underlying74 tI137 ?_
            exact hK
          try dsimp only [putL, setL, evL, getL]
          refine HK_read 3 (v := .agg #[.int .i64 u80.1, .int .i64 u80.2.1, .int .i64 u80.2.2.1, .int .i64 u80.2.2.2.1, .slice A81 u80.2.2.2.2.length c81]) rfl (by kernel_rfl) (fun c l s h => hQp c l s h) rfl (fun s' hR' K hK => ?_) rfl rfl hR ?_
          · refine o_loads' [.int .i64 u80.1, .int .i64 u80.2.1, .int .i64 u80.2.2.1, .int .i64 u80.2.2.2.1, .slice A81 u80.2.2.2.2.length c81] rfl Try.underlying137 rfl tI137 rfl (fun j v hj => (hh80 (hH0.bs.mono.trans hR'.mono)) j v hj) ?_
            exact hK
          try dsimp only [putL, setL, evL, getL]
          refine HK_readP 4 (v := .slice A1p p1.length c1p) rfl (by kernel_rfl) (fun c l s h => hQp c l s h) rfl (fun s' K hK => ?_) rfl rfl (fun _ => hR) ?_
          · refine o_move ?_
            exact hK
          try dsimp only [putL, setL, evL, getL]
          refine HK_readP 5 (v := .int .i64 x60) rfl (by kernel_rfl) (fun c l s h => hQp c l s h) rfl (fun s' K hK => ?_) rfl rfl (fun _ => hR) ?_
          · refine o_move ?_
            exact hK
          try dsimp only [putL, setL, evL, getL]
          obtain ⟨u82, hu82, H⟩ := headE H
          obtain ⟨b82, o82, cs82, hr82, hh82, hel82⟩ := Rd.elb HRp1 hu82
          obtain ⟨_, _, rfl, rfl, ⟨_, _, rfl, rfl, ⟨_, _, rfl, rfl, ⟨_, _, rfl, rfl, ⟨A83, c83, rfl, D83⟩⟩⟩⟩⟩ := hr82
          refine HK_readP 6 (v := .pointer (some ⟨b82, o82, none⟩)) rfl (by kernel_rfl) (fun c l s h => hQp c l s h) rfl (fun s' K hK => ?_) rfl rfl (fun _ => hR) ?_
          · refine hel82 s' rfl rfl Try.underlying74 tI137 ?_
            exact hK
          try dsimp only [putL, setL, evL, getL]
          refine HK_read 7 (v := .agg #[.int .i64 u82.1, .int .i64 u82.2.1, .int .i64 u82.2.2.1, .int .i64 u82.2.2.2.1, .slice A83 u82.2.2.2.2.length c83]) rfl (by kernel_rfl) (fun c l s h => hQp c l s h) rfl (fun s' hR' K hK => ?_) rfl rfl hR ?_
          · refine o_loads' [.int .i64 u82.1, .int .i64 u82.2.1, .int .i64 u82.2.2.1, .int .i64 u82.2.2.2.1, .slice A83 u82.2.2.2.2.length c83] rfl Try.underlying137 rfl tI137 rfl (fun j v hj => (hh82 (hH0.bs.mono.trans hR'.mono)) j v hj) ?_
            exact hK
          try dsimp only [putL, setL, evL, getL]
          obtain ⟨u84, hu84, H⟩ := headE H
          refine HK_one 8 (by kernel_rfl) rfl (fun _ => hR) rfl ?_
          refine o_call (args := #[.agg #[.int .i64 u80.1, .int .i64 u80.2.1, .int .i64 u80.2.2.1, .int .i64 u80.2.2.2.1, .slice A81 u80.2.2.2.2.length c81], .agg #[.int .i64 u82.1, .int .i64 u82.2.1, .int .i64 u82.2.2.1, .int .i64 u82.2.2.2.1, .slice A83 u82.2.2.2.2.length c83]]) Try.func127 rfl rfl rfl (laws_eqEvent.ok sb s74 no u80.1 u80.2.1 u80.2.2.1 u80.2.2.2.1 A81 c81 u80.2.2.2.2 u82.1 u82.2.1 u82.2.2.1 u82.2.2.2.1 A83 c83 u82.2.2.2.2 D81 D83 (Hp.own hH.bs) _ hu84) ?_
          rintro _ s84 ⟨rfl, hD⟩
          replace hR := hR.trans hD.gro
          replace hH := hH.back0 hD (Up.refl _ _ _)
          clear hD
          dsimp only [addC, setC, rmC, selC, getC] at hH
          try dsimp only [putL, setL, evL, getL]
          refine HK_readP 9 (v := .bool (!u84)) rfl (by kernel_rfl) (fun c l s h => hQp c l s h) rfl (fun s' K hK => ?_) rfl rfl (fun _ => hR) ?_
          · refine o_not rfl ?_
            exact hK
          try dsimp only [putL, setL, evL, getL]
          refine HK_done (fun _ => hR) (by kernel_rfl) ?_
          refine hK79 _ _ ?_
          rcases Bool.eq_false_or_eq_true (!u84) with hb85 | hb85
          · replace H := iteT hb85 H
            refine HT_true (congrArg Value.bool hb85) ?_
            refine HT_seq_k ?_
            intro K86 hK86
            refine HT_region ?_
            refine HL_cons rfl ?_
            refine o_assign ?_
            try dsimp only [putL, setL, evL, getL]
            refine HL_nil ?_
            refine hK86 _ _ ?_
            refine HT_ret ?_
            replace H := escH (fun z hz => hG8 _ hz) H
            obtain rfl := Option.some.inj (show some _ = some r from H)
            exact hQr _ _ [.bool false] ⟨rfl, trivial⟩ ⟨rfl, hH⟩
          · replace H := iteF hb85 H
            refine HT_false (congrArg Value.bool hb85) ?_
            refine HT_skip ?_
            refine hK78 _ _ ?_
            refine HT_region ?_
            refine HL_cons rfl ?_
            refine o_move ?_
            try dsimp only [putL, setL, evL, getL]
            refine HL_cons rfl ?_
            refine o_bin rfl rfl rfl ?_
            try dsimp only [putL, setL, evL, getL]
            refine HL_cons rfl ?_
            refine o_assign ?_
            try dsimp only [putL, setL, evL, getL]
            refine HL_nil ?_
            exact hK74 _ _ ⟨kf, Nat.lt_succ_self kf, IntKind.i64.wrap (x60 + 1), H, rfl, hH⟩
        · replace H := iteF hb77 H
          refine HT_false (congrArg Value.bool hb77) ?_
          refine HT_exit ?_
          exact hK8 _ _ ⟨H, rfl, hH⟩
    · rintro l' s87 ⟨H, hl, hH⟩
      generalize getL l' 4 = j4, getL l' 5 = j5, getL l' 11 = j11, getL l' 12 = j12, getL l' 13 = j13, getL l' 14 = j14, getL l' 15 = j15, getL l' 16 = j16, getL l' 17 = j17, getL l' 18 = j18, getL l' 19 = j19, getL l' 20 = j20, getL l' 21 = j21, getL l' 22 = j22, getL l' 23 = j23, getL l' 24 = j24, getL l' 25 = j25, getL l' 26 = j26 at hl
      subst hl
      replace H := hG8 _ H
      try dsimp only at H
      refine hK6 _ _ ?_
      refine HT_seq_k ?_
      intro K88 hK88
      refine HT_region ?_
      refine HL_cons rfl ?_
      refine o_assign ?_
      try dsimp only [putL, setL, evL, getL]
      refine HL_nil ?_
      refine hK88 _ _ ?_
      refine HT_ret ?_
      obtain rfl := Option.some.inj (show some _ = some r from H)
      exact hQr _ _ [.bool true] ⟨rfl, trivial⟩ ⟨rfl, hH⟩
def laws_eqSaid.f (p0_0 : Int) (p0_1 : Int) (p0_2 : Int) (p0_3 : Int) (p0_4 : Int) (p0_5 : List (Int)) (p1_0 : Int) (p1_1 : Int) (p1_2 : Int) (p1_3 : Int) (p1_4 : Int) (p1_5 : List (Int)) : Option Bool := if (p0_0 != p1_0) = true then (some false) else ((laws_eqEvent.f p0_1 p0_2 p0_3 p0_4 p0_5 p1_1 p1_2 p1_3 p1_4 p1_5).bind fun u10 => if (!u10) = true then (some false) else (some true))
def laws_eqSaid.post (sb s : St) (F0 : Fp) (r : Bool) : Value → St → Prop := fun v s' => v = .bool r ∧ Hp sb s F0 s' []
set_option maxRecDepth 100000 in
set_option maxHeartbeats 4000000 in
theorem laws_eqSaid.ok (sb s : St) (F0 : Fp) (p0_0 : Int) (p0_1 : Int) (p0_2 : Int) (p0_3 : Int) (p0_4 : Int) (A0_5p : Option Addr) (c0_5p : Nat) (p0_5 : List (Int)) (p1_0 : Int) (p1_1 : Int) (p1_2 : Int) (p1_3 : Int) (p1_4 : Int) (A1_5p : Option Addr) (c1_5p : Nat) (p1_5 : List (Int)) (HRp0_5 : Rd KI sb A0_5p c0_5p p0_5) (HRp1_5 : Rd KI sb A1_5p c1_5p p1_5) (hH : Hp sb s F0 s []) (r : Bool) (H : laws_eqSaid.f p0_0 p0_1 p0_2 p0_3 p0_4 p0_5 p1_0 p1_1 p1_2 p1_3 p1_4 p1_5 = some r) : GCall Try.prog 128 #[.agg #[.int .i64 p0_0, .int .i64 p0_1, .int .i64 p0_2, .int .i64 p0_3, .int .i64 p0_4, .slice A0_5p p0_5.length c0_5p], .agg #[.int .i64 p1_0, .int .i64 p1_1, .int .i64 p1_2, .int .i64 p1_3, .int .i64 p1_4, .slice A1_5p p1_5.length c1_5p]] s (laws_eqSaid.post sb s F0 r) := by
  refine GCall_ofk [.tmp 4] [.agg #[.int .i64 p0_0, .int .i64 p0_1, .int .i64 p0_2, .int .i64 p0_3, .int .i64 p0_4, .slice A0_5p p0_5.length c0_5p], .agg #[.int .i64 p1_0, .int .i64 p1_1, .int .i64 p1_2, .int .i64 p1_3, .int .i64 p1_4, .slice A1_5p p1_5.length c1_5p], undef, undef, undef, undef, undef, undef, undef, undef, undef, undef, undef, undef, undef, undef] Try.func128 rfl rfl rfl ?_
  intro w Q hQr hQn hQp
  replace H := topE H
  unfold laws_eqSaid.f at H
  refine HT_seq_k ?_
  intro K1 hK1
  refine HT_region ?_
  refine HL_cons rfl ?_
  refine o_boxH hH rfl ?_
  intro b2 s2 hH' hG
  replace hH : Hp sb s F0 s2 [Ck.ov b2 [.int .i64 p0_0, .int .i64 p0_1, .int .i64 p0_2, .int .i64 p0_3, .int .i64 p0_4, .slice A0_5p p0_5.length c0_5p] 139] := hH'
  clear hH' hG
  try dsimp only [putL, setL, evL, getL]
  refine HL_cons rfl ?_
  refine o_boxH hH rfl ?_
  intro b3 s3 hH' hG
  replace hH : Hp sb s F0 s3 [Ck.ov b2 [.int .i64 p0_0, .int .i64 p0_1, .int .i64 p0_2, .int .i64 p0_3, .int .i64 p0_4, .slice A0_5p p0_5.length c0_5p] 139, Ck.ov b3 [.int .i64 p1_0, .int .i64 p1_1, .int .i64 p1_2, .int .i64 p1_3, .int .i64 p1_4, .slice A1_5p p1_5.length c1_5p] 139] := hH'
  clear hH' hG
  try dsimp only [putL, setL, evL, getL]
  refine HL_cons rfl ?_
  refine o_assign ?_
  try dsimp only [putL, setL, evL, getL]
  refine HL_nil ?_
  refine hK1 _ _ ?_
  refine HT_seq_k ?_
  intro K4 hK4
  refine HT_seq_k ?_
  intro K5 hK5
  refine HT_region ?_
  refine HL_cons rfl ?_
  refine o_faddr' (ft := 3) (off := 0) rfl Try.underlying139 rfl tI3 (by decide) ?_
  try dsimp only [putL, setL, evL, getL]
  refine HL_cons rfl ?_
  refine o_load' rfl Try.underlying3 rfl (hH.hasv 0 rfl rfl) ?_
  try dsimp only [putL, setL, evL, getL]
  refine HL_cons rfl ?_
  refine o_faddr' (ft := 3) (off := 0) rfl Try.underlying139 rfl tI3 (by decide) ?_
  try dsimp only [putL, setL, evL, getL]
  refine HL_cons rfl ?_
  refine o_load' rfl Try.underlying3 rfl (hH.hasv 1 rfl rfl) ?_
  try dsimp only [putL, setL, evL, getL]
  refine HL_cons rfl ?_
  refine o_bin rfl rfl rfl ?_
  try dsimp only [putL, setL, evL, getL]
  refine HL_nil ?_
  refine hK5 _ _ ?_
  rcases Bool.eq_false_or_eq_true (p0_0 != p1_0) with hb6 | hb6
  · replace H := iteT hb6 H
    refine HT_true (congrArg Value.bool hb6) ?_
    refine HT_seq_k ?_
    intro K7 hK7
    refine HT_region ?_
    refine HL_cons rfl ?_
    refine o_assign ?_
    try dsimp only [putL, setL, evL, getL]
    refine HL_nil ?_
    refine hK7 _ _ ?_
    refine HT_ret ?_
    obtain rfl := Option.some.inj (show some _ = some r from H)
    exact hQr _ _ [.bool false] ⟨rfl, trivial⟩ ⟨rfl, hH.sel [] (by decide)⟩
  · replace H := iteF hb6 H
    refine HT_false (congrArg Value.bool hb6) ?_
    refine HT_skip ?_
    refine hK4 _ _ ?_
    refine HT_seq_k ?_
    intro K8 hK8
    refine HT_seq_k ?_
    intro K9 hK9
    refine HT_region ?_
    refine HL_cons rfl ?_
    refine o_faddr' (ft := 137) (off := 1) rfl Try.underlying139 rfl tI137 (by decide) ?_
    try dsimp only [putL, setL, evL, getL]
    refine HL_cons rfl ?_
    refine o_loads' [.int .i64 p0_1, .int .i64 p0_2, .int .i64 p0_3, .int .i64 p0_4, .slice A0_5p p0_5.length c0_5p] rfl Try.underlying137 rfl tI137 rfl (hH.partv 0 rfl (0 + 1) [.int .i64 p0_1, .int .i64 p0_2, .int .i64 p0_3, .int .i64 p0_4, .slice A0_5p p0_5.length c0_5p] rfl) ?_
    try dsimp only [putL, setL, evL, getL]
    refine HL_cons rfl ?_
    refine o_faddr' (ft := 137) (off := 1) rfl Try.underlying139 rfl tI137 (by decide) ?_
    try dsimp only [putL, setL, evL, getL]
    refine HL_cons rfl ?_
    refine o_loads' [.int .i64 p1_1, .int .i64 p1_2, .int .i64 p1_3, .int .i64 p1_4, .slice A1_5p p1_5.length c1_5p] rfl Try.underlying137 rfl tI137 rfl (hH.partv 1 rfl (0 + 1) [.int .i64 p1_1, .int .i64 p1_2, .int .i64 p1_3, .int .i64 p1_4, .slice A1_5p p1_5.length c1_5p] rfl) ?_
    try dsimp only [putL, setL, evL, getL]
    obtain ⟨u10, hu10, H⟩ := headE H
    refine HL_cons rfl ?_
    refine o_call (args := #[.agg #[.int .i64 p0_1, .int .i64 p0_2, .int .i64 p0_3, .int .i64 p0_4, .slice A0_5p p0_5.length c0_5p], .agg #[.int .i64 p1_1, .int .i64 p1_2, .int .i64 p1_3, .int .i64 p1_4, .slice A1_5p p1_5.length c1_5p]]) Try.func127 rfl rfl rfl (laws_eqEvent.ok sb s3 no p0_1 p0_2 p0_3 p0_4 A0_5p c0_5p p0_5 p1_1 p1_2 p1_3 p1_4 A1_5p c1_5p p1_5 HRp0_5 HRp1_5 (Hp.own hH.bs) _ hu10) ?_
    rintro _ s10 ⟨rfl, hD⟩
    replace hH := hH.back0 hD (Up.refl _ _ _)
    clear hD
    dsimp only [addC, setC, rmC, selC, getC] at hH
    try dsimp only [putL, setL, evL, getL]
    refine HL_cons rfl ?_
    refine o_not rfl ?_
    try dsimp only [putL, setL, evL, getL]
    refine HL_nil ?_
    refine hK9 _ _ ?_
    rcases Bool.eq_false_or_eq_true (!u10) with hb11 | hb11
    · replace H := iteT hb11 H
      refine HT_true (congrArg Value.bool hb11) ?_
      refine HT_seq_k ?_
      intro K12 hK12
      refine HT_region ?_
      refine HL_cons rfl ?_
      refine o_assign ?_
      try dsimp only [putL, setL, evL, getL]
      refine HL_nil ?_
      refine hK12 _ _ ?_
      refine HT_ret ?_
      obtain rfl := Option.some.inj (show some _ = some r from H)
      exact hQr _ _ [.bool false] ⟨rfl, trivial⟩ ⟨rfl, hH.sel [] (by decide)⟩
    · replace H := iteF hb11 H
      refine HT_false (congrArg Value.bool hb11) ?_
      refine HT_skip ?_
      refine hK8 _ _ ?_
      refine HT_seq_k ?_
      intro K13 hK13
      refine HT_region ?_
      refine HL_cons rfl ?_
      refine o_assign ?_
      try dsimp only [putL, setL, evL, getL]
      refine HL_nil ?_
      refine hK13 _ _ ?_
      refine HT_ret ?_
      obtain rfl := Option.some.inj (show some _ = some r from H)
      exact hQr _ _ [.bool true] ⟨rfl, trivial⟩ ⟨rfl, hH.sel [] (by decide)⟩
def laws_eqSaidS.l1 (p0 : List ((Int) × ((Int) × (Int) × (Int) × (Int) × (List (Int))))) (p1 : List ((Int) × ((Int) × (Int) × (Int) × (Int) × (List (Int))))) : Nat → Int → Option (Lo Unit Bool)
  | 0, _ => none
  | kf + 1, x60 => if (decide (x60 < (p0.length : Int))) = true then ((rd? p0 x60).bind fun u80 => (rd? p1 x60).bind fun u82 => (laws_eqSaid.f u80.1 u80.2.1 u80.2.2.1 u80.2.2.2.1 u80.2.2.2.2.1 u80.2.2.2.2.2 u82.1 u82.2.1 u82.2.2.1 u82.2.2.2.1 u82.2.2.2.2.1 u82.2.2.2.2.2).bind fun u84 => if (!u84) = true then ((some false).bind fun z => some (Lo.ret z)) else (laws_eqSaidS.l1 p0 p1 kf (IntKind.i64.wrap (x60 + 1)))) else (some (Lo.go ()))
def laws_eqSaidS.f (p0 : List ((Int) × ((Int) × (Int) × (Int) × (Int) × (List (Int))))) (p1 : List ((Int) × ((Int) × (Int) × (Int) × (Int) × (List (Int))))) : Option Bool := if ((p0.length : Int) != (p1.length : Int)) = true then (some false) else ((laws_eqSaidS.l1 p0 p1 ((((p0.length : Int)) - (0)).toNat + 2) 0).bind fun (o : Lo Unit Bool) => match o with | .go () => (some true) | .ret z => some z)
def laws_eqSaidS.post (sb s : St) (F0 : Fp) (r : Bool) : Value → St → Prop := fun v s' => v = .bool r ∧ Hp sb s F0 s' []
set_option maxRecDepth 100000 in
set_option maxHeartbeats 4000000 in
theorem laws_eqSaidS.ok (sb s : St) (F0 : Fp) (A0p : Option Addr) (c0p : Nat) (p0 : List ((Int) × ((Int) × (Int) × (Int) × (Int) × (List (Int))))) (A1p : Option Addr) (c1p : Nat) (p1 : List ((Int) × ((Int) × (Int) × (Int) × (Int) × (List (Int))))) (HRp0 : Rd KS139 sb A0p c0p p0) (HRp1 : Rd KS139 sb A1p c1p p1) (hH : Hp sb s F0 s []) (r : Bool) (H : laws_eqSaidS.f p0 p1 = some r) : GCall Try.prog 61 #[.slice A0p p0.length c0p, .slice A1p p1.length c1p] s (laws_eqSaidS.post sb s F0 r) := by
  refine GCall_ofk [.tmp 4] [.slice A0p p0.length c0p, .slice A1p p1.length c1p, undef, undef, undef, undef, undef, undef, undef, undef, undef, undef, undef, undef, undef, undef, undef, undef, undef, undef, undef, undef, undef, undef, undef, undef, undef] Try.func61 rfl rfl rfl ?_
  intro w Q hQr hQn hQp
  replace H := topE H
  unfold laws_eqSaidS.f at H
  refine HT_seq_k ?_
  intro K1 hK1
  refine HT_region ?_
  refine HL_cons rfl ?_
  refine o_assign ?_
  try dsimp only [putL, setL, evL, getL]
  refine HL_nil ?_
  refine hK1 _ _ ?_
  refine HT_seq_k ?_
  intro K2 hK2
  refine HT_seq_k ?_
  intro K3 hK3
  refine HT_region ?_
  refine HL_cons rfl ?_
  refine o_move ?_
  try dsimp only [putL, setL, evL, getL]
  refine HL_cons rfl ?_
  refine o_len rfl Try.underlying77 ?_
  try dsimp only [putL, setL, evL, getL]
  refine HL_cons rfl ?_
  refine o_move ?_
  try dsimp only [putL, setL, evL, getL]
  refine HL_cons rfl ?_
  refine o_len rfl Try.underlying77 ?_
  try dsimp only [putL, setL, evL, getL]
  refine HL_cons rfl ?_
  refine o_bin rfl rfl rfl ?_
  try dsimp only [putL, setL, evL, getL]
  refine HL_nil ?_
  refine hK3 _ _ ?_
  rcases Bool.eq_false_or_eq_true ((p0.length : Int) != (p1.length : Int)) with hb4 | hb4
  · replace H := iteT hb4 H
    refine HT_true (congrArg Value.bool hb4) ?_
    refine HT_seq_k ?_
    intro K5 hK5
    refine HT_region ?_
    refine HL_cons rfl ?_
    refine o_assign ?_
    try dsimp only [putL, setL, evL, getL]
    refine HL_nil ?_
    refine hK5 _ _ ?_
    refine HT_ret ?_
    obtain rfl := Option.some.inj (show some _ = some r from H)
    exact hQr _ _ [.bool false] ⟨rfl, trivial⟩ ⟨rfl, hH⟩
  · replace H := iteF hb4 H
    refine HT_false (congrArg Value.bool hb4) ?_
    refine HT_skip ?_
    refine hK2 _ _ ?_
    refine HT_seq_k ?_
    intro K6 hK6
    refine HT_seq_k ?_
    intro K7 hK7
    refine HT_region ?_
    refine HL_cons rfl ?_
    refine o_assign ?_
    try dsimp only [putL, setL, evL, getL]
    refine HL_nil ?_
    refine hK7 _ _ ?_
    refine joinH H fun G8 hG8 H => ?_
    refine HT_toK (fun l' s' => G8 (.go ()) = some r ∧ l' = [.slice A0p p0.length c0p, .slice A1p p1.length c1p, undef, undef, getL l' 4, getL l' 5, .slice A0p p0.length c0p, .int .i64 (p0.length : Int), .slice A1p p1.length c1p, .int .i64 (p1.length : Int), .bool ((p0.length : Int) != (p1.length : Int)), getL l' 11, getL l' 12, getL l' 13, getL l' 14, getL l' 15, getL l' 16, getL l' 17, getL l' 18, getL l' 19, getL l' 20, getL l' 21, getL l' 22, getL l' 23, getL l' 24, getL l' 25, getL l' 26] ∧ Hp sb s F0 s' []) ?_ ?_
    · intro K8 hK8
      refine HT_block ?_
      refine HT_loopK (fun kf l' s' => ∃ (x60 : Int), (laws_eqSaidS.l1 p0 p1 kf x60).bind G8 = some r ∧ l' = [.slice A0p p0.length c0p, .slice A1p p1.length c1p, undef, undef, getL l' 4, .int .i64 x60, .slice A0p p0.length c0p, .int .i64 (p0.length : Int), .slice A1p p1.length c1p, .int .i64 (p1.length : Int), .bool ((p0.length : Int) != (p1.length : Int)), getL l' 11, getL l' 12, getL l' 13, getL l' 14, getL l' 15, getL l' 16, getL l' 17, getL l' 18, getL l' 19, getL l' 20, getL l' 21, getL l' 22, getL l' 23, getL l' 24, getL l' 25, getL l' 26] ∧ Hp sb s F0 s' []) ((((p0.length : Int)) - (0)).toNat + 2) ⟨0, H, rfl, hH⟩ ?_
      rintro kf l' s74 ⟨x60, H, hl, hH⟩ K74 hK74
      generalize getL l' 4 = j4, getL l' 11 = j11, getL l' 12 = j12, getL l' 13 = j13, getL l' 14 = j14, getL l' 15 = j15, getL l' 16 = j16, getL l' 17 = j17, getL l' 18 = j18, getL l' 19 = j19, getL l' 20 = j20, getL l' 21 = j21, getL l' 22 = j22, getL l' 23 = j23, getL l' 24 = j24, getL l' 25 = j25, getL l' 26 = j26 at hl
      subst hl
      cases kf with
      | zero => simp [laws_eqSaidS.l1] at H
      | succ kf =>
        rw [laws_eqSaidS.l1] at H
        refine HT_seq_k ?_
        intro K75 hK75
        refine HT_seq_k ?_
        intro K76 hK76
        refine HT_region ?_
        refine HL_cons rfl ?_
        refine o_move ?_
        try dsimp only [putL, setL, evL, getL]
        refine HL_cons rfl ?_
        refine o_move ?_
        try dsimp only [putL, setL, evL, getL]
        refine HL_cons rfl ?_
        refine o_len rfl Try.underlying77 ?_
        try dsimp only [putL, setL, evL, getL]
        refine HL_cons rfl ?_
        refine o_bin rfl rfl rfl ?_
        try dsimp only [putL, setL, evL, getL]
        refine HL_nil ?_
        refine hK76 _ _ ?_
        rcases Bool.eq_false_or_eq_true (decide (x60 < (p0.length : Int))) with hb77 | hb77
        · replace H := iteT hb77 H
          refine HT_true (congrArg Value.bool hb77) ?_
          refine HT_skip ?_
          refine hK75 _ _ ?_
          refine HT_seq_k ?_
          intro K78 hK78
          refine HT_block ?_
          refine HT_seq_k ?_
          intro K79 hK79
          refine HK_draw (fun s' => Gro s74 s') 11 hMix ?_
          have hR := Gro.refl s74
          have hH0 := hH
          refine HK_readP 0 (v := .slice A0p p0.length c0p) rfl (by kernel_rfl) (fun c l s h => hQp c l s h) rfl (fun s' K hK => ?_) rfl rfl (fun _ => hR) ?_
          · refine o_move ?_
            exact hK
          try dsimp only [putL, setL, evL, getL]
          refine HK_readP 1 (v := .int .i64 x60) rfl (by kernel_rfl) (fun c l s h => hQp c l s h) rfl (fun s' K hK => ?_) rfl rfl (fun _ => hR) ?_
          · refine o_move ?_
            exact hK
          try dsimp only [putL, setL, evL, getL]
          obtain ⟨u80, hu80, H⟩ := headE H
          obtain ⟨b80, o80, cs80, hr80, hh80, hel80⟩ := Rd.elb HRp0 hu80
          obtain ⟨_, _, rfl, rfl, ⟨_, _, rfl, rfl, ⟨_, _, rfl, rfl, ⟨_, _, rfl, rfl, ⟨_, _, rfl, rfl, ⟨A81, c81, rfl, D81⟩⟩⟩⟩⟩⟩ := hr80
          refine HK_readP 2 (v := .pointer (some ⟨b80, o80, none⟩)) rfl (by kernel_rfl) (fun c l s h => hQp c l s h) rfl (fun s' K hK => ?_) rfl rfl (fun _ => hR) ?_
          · refine hel80 s' rfl rfl Try.underlying77 tI139 ?_
            exact hK
          try dsimp only [putL, setL, evL, getL]
          refine HK_read 3 (v := .agg #[.int .i64 u80.1, .int .i64 u80.2.1, .int .i64 u80.2.2.1, .int .i64 u80.2.2.2.1, .int .i64 u80.2.2.2.2.1, .slice A81 u80.2.2.2.2.2.length c81]) rfl (by kernel_rfl) (fun c l s h => hQp c l s h) rfl (fun s' hR' K hK => ?_) rfl rfl hR ?_
          · refine o_loads' [.int .i64 u80.1, .int .i64 u80.2.1, .int .i64 u80.2.2.1, .int .i64 u80.2.2.2.1, .int .i64 u80.2.2.2.2.1, .slice A81 u80.2.2.2.2.2.length c81] rfl Try.underlying139 rfl tI139 rfl (fun j v hj => (hh80 (hH0.bs.mono.trans hR'.mono)) j v hj) ?_
            exact hK
          try dsimp only [putL, setL, evL, getL]
          refine HK_readP 4 (v := .slice A1p p1.length c1p) rfl (by kernel_rfl) (fun c l s h => hQp c l s h) rfl (fun s' K hK => ?_) rfl rfl (fun _ => hR) ?_
          · refine o_move ?_
            exact hK
          try dsimp only [putL, setL, evL, getL]
          refine HK_readP 5 (v := .int .i64 x60) rfl (by kernel_rfl) (fun c l s h => hQp c l s h) rfl (fun s' K hK => ?_) rfl rfl (fun _ => hR) ?_
          · refine o_move ?_
            exact hK
          try dsimp only [putL, setL, evL, getL]
          obtain ⟨u82, hu82, H⟩ := headE H
          obtain ⟨b82, o82, cs82, hr82, hh82, hel82⟩ := Rd.elb HRp1 hu82
          obtain ⟨_, _, rfl, rfl, ⟨_, _, rfl, rfl, ⟨_, _, rfl, rfl, ⟨_, _, rfl, rfl, ⟨_, _, rfl, rfl, ⟨A83, c83, rfl, D83⟩⟩⟩⟩⟩⟩ := hr82
          refine HK_readP 6 (v := .pointer (some ⟨b82, o82, none⟩)) rfl (by kernel_rfl) (fun c l s h => hQp c l s h) rfl (fun s' K hK => ?_) rfl rfl (fun _ => hR) ?_
          · refine hel82 s' rfl rfl Try.underlying77 tI139 ?_
            exact hK
          try dsimp only [putL, setL, evL, getL]
          refine HK_read 7 (v := .agg #[.int .i64 u82.1, .int .i64 u82.2.1, .int .i64 u82.2.2.1, .int .i64 u82.2.2.2.1, .int .i64 u82.2.2.2.2.1, .slice A83 u82.2.2.2.2.2.length c83]) rfl (by kernel_rfl) (fun c l s h => hQp c l s h) rfl (fun s' hR' K hK => ?_) rfl rfl hR ?_
          · refine o_loads' [.int .i64 u82.1, .int .i64 u82.2.1, .int .i64 u82.2.2.1, .int .i64 u82.2.2.2.1, .int .i64 u82.2.2.2.2.1, .slice A83 u82.2.2.2.2.2.length c83] rfl Try.underlying139 rfl tI139 rfl (fun j v hj => (hh82 (hH0.bs.mono.trans hR'.mono)) j v hj) ?_
            exact hK
          try dsimp only [putL, setL, evL, getL]
          obtain ⟨u84, hu84, H⟩ := headE H
          refine HK_one 8 (by kernel_rfl) rfl (fun _ => hR) rfl ?_
          refine o_call (args := #[.agg #[.int .i64 u80.1, .int .i64 u80.2.1, .int .i64 u80.2.2.1, .int .i64 u80.2.2.2.1, .int .i64 u80.2.2.2.2.1, .slice A81 u80.2.2.2.2.2.length c81], .agg #[.int .i64 u82.1, .int .i64 u82.2.1, .int .i64 u82.2.2.1, .int .i64 u82.2.2.2.1, .int .i64 u82.2.2.2.2.1, .slice A83 u82.2.2.2.2.2.length c83]]) Try.func128 rfl rfl rfl (laws_eqSaid.ok sb s74 no u80.1 u80.2.1 u80.2.2.1 u80.2.2.2.1 u80.2.2.2.2.1 A81 c81 u80.2.2.2.2.2 u82.1 u82.2.1 u82.2.2.1 u82.2.2.2.1 u82.2.2.2.2.1 A83 c83 u82.2.2.2.2.2 D81 D83 (Hp.own hH.bs) _ hu84) ?_
          rintro _ s84 ⟨rfl, hD⟩
          replace hR := hR.trans hD.gro
          replace hH := hH.back0 hD (Up.refl _ _ _)
          clear hD
          dsimp only [addC, setC, rmC, selC, getC] at hH
          try dsimp only [putL, setL, evL, getL]
          refine HK_readP 9 (v := .bool (!u84)) rfl (by kernel_rfl) (fun c l s h => hQp c l s h) rfl (fun s' K hK => ?_) rfl rfl (fun _ => hR) ?_
          · refine o_not rfl ?_
            exact hK
          try dsimp only [putL, setL, evL, getL]
          refine HK_done (fun _ => hR) (by kernel_rfl) ?_
          refine hK79 _ _ ?_
          rcases Bool.eq_false_or_eq_true (!u84) with hb85 | hb85
          · replace H := iteT hb85 H
            refine HT_true (congrArg Value.bool hb85) ?_
            refine HT_seq_k ?_
            intro K86 hK86
            refine HT_region ?_
            refine HL_cons rfl ?_
            refine o_assign ?_
            try dsimp only [putL, setL, evL, getL]
            refine HL_nil ?_
            refine hK86 _ _ ?_
            refine HT_ret ?_
            replace H := escH (fun z hz => hG8 _ hz) H
            obtain rfl := Option.some.inj (show some _ = some r from H)
            exact hQr _ _ [.bool false] ⟨rfl, trivial⟩ ⟨rfl, hH⟩
          · replace H := iteF hb85 H
            refine HT_false (congrArg Value.bool hb85) ?_
            refine HT_skip ?_
            refine hK78 _ _ ?_
            refine HT_region ?_
            refine HL_cons rfl ?_
            refine o_move ?_
            try dsimp only [putL, setL, evL, getL]
            refine HL_cons rfl ?_
            refine o_bin rfl rfl rfl ?_
            try dsimp only [putL, setL, evL, getL]
            refine HL_cons rfl ?_
            refine o_assign ?_
            try dsimp only [putL, setL, evL, getL]
            refine HL_nil ?_
            exact hK74 _ _ ⟨kf, Nat.lt_succ_self kf, IntKind.i64.wrap (x60 + 1), H, rfl, hH⟩
        · replace H := iteF hb77 H
          refine HT_false (congrArg Value.bool hb77) ?_
          refine HT_exit ?_
          exact hK8 _ _ ⟨H, rfl, hH⟩
    · rintro l' s87 ⟨H, hl, hH⟩
      generalize getL l' 4 = j4, getL l' 5 = j5, getL l' 11 = j11, getL l' 12 = j12, getL l' 13 = j13, getL l' 14 = j14, getL l' 15 = j15, getL l' 16 = j16, getL l' 17 = j17, getL l' 18 = j18, getL l' 19 = j19, getL l' 20 = j20, getL l' 21 = j21, getL l' 22 = j22, getL l' 23 = j23, getL l' 24 = j24, getL l' 25 = j25, getL l' 26 = j26 at hl
      subst hl
      replace H := hG8 _ H
      try dsimp only at H
      refine hK6 _ _ ?_
      refine HT_seq_k ?_
      intro K88 hK88
      refine HT_region ?_
      refine HL_cons rfl ?_
      refine o_assign ?_
      try dsimp only [putL, setL, evL, getL]
      refine HL_nil ?_
      refine hK88 _ _ ?_
      refine HT_ret ?_
      obtain rfl := Option.some.inj (show some _ = some r from H)
      exact hQr _ _ [.bool true] ⟨rfl, trivial⟩ ⟨rfl, hH⟩
def laws_markIntS.l1 (p0 : List (Int)) : Nat → (List (Int)) → Int → Int → Option (Int × (List (Int)))
  | 0, _, _, _ => none
  | kf + 1, x42, x43, x44 => if (decide (x44 < (p0.length : Int))) = true then ((rd? x42 x44).bind fun u61 => (st? x42 x44 x43).bind fun x62 => laws_markIntS.l1 p0 kf x62 (IntKind.i64.wrap (x43 + 1)) (IntKind.i64.wrap (x44 + 1))) else (some (x43, x42))
def laws_markIntS.f (p0 : List (Int)) (p1 : Int) : Option (Int × (List (Int))) := (laws_markIntS.l1 p0 ((((p0.length : Int)) - (0)).toNat + 2) p0 p1 0).bind fun (o : Int × (List (Int))) => match o with | (x33, x34) => (some (x33, x34))
def laws_markIntS.post (sb s : St) (F0 : Fp) (A0p : Option Addr) (c0p : Nat) (p0 : List (Int)) (r : Int × (List (Int))) : Value → St → Prop := fun v s' => v = .int .i64 r.1 ∧ Hp sb s F0 s' [Ck.ol OI 3 A0p c0p r.2] ∧ r.2.length = p0.length
set_option maxRecDepth 100000 in
set_option maxHeartbeats 4000000 in
theorem laws_markIntS.ok (sb s : St) (F0 : Fp) (A0p : Option Addr) (c0p : Nat) (p0 : List (Int)) (p1 : Int) (hH : Hp sb s F0 s [Ck.ol OI 3 A0p c0p p0]) (r : Int × (List (Int))) (H : laws_markIntS.f p0 p1 = some r) : GCall Try.prog 19 #[.slice A0p p0.length c0p, .int .i64 p1] s (laws_markIntS.post sb s F0 A0p c0p p0 r) := by
  refine GCall_ofk [.tmp 4] [.slice A0p p0.length c0p, .int .i64 p1, undef, undef, undef, undef, undef, undef, undef, undef, undef, undef, undef, undef, undef, undef, undef, undef, undef] Try.func19 rfl rfl rfl ?_
  intro w Q hQr hQn hQp
  replace H := topE H
  unfold laws_markIntS.f at H
  refine HT_seq_k ?_
  intro K1 hK1
  refine HT_region ?_
  refine HL_cons rfl ?_
  refine o_assign ?_
  try dsimp only [putL, setL, evL, getL]
  refine HL_nil ?_
  refine hK1 _ _ ?_
  refine HT_seq_k ?_
  intro K2 hK2
  refine HT_seq_k ?_
  intro K3 hK3
  refine HT_region ?_
  refine HL_cons rfl ?_
  refine o_assign ?_
  try dsimp only [putL, setL, evL, getL]
  refine HL_nil ?_
  refine hK3 _ _ ?_
  refine joinH H fun G4 hG4 H => ?_
  refine HT_toK (fun l' s' => ∃ (x33 : Int) (x34 : List (Int)), G4 (x33, x34) = some r ∧ l' = [.slice A0p p0.length c0p, .int .i64 x33, undef, undef, .int .i64 0, getL l' 5, getL l' 6, getL l' 7, getL l' 8, getL l' 9, getL l' 10, getL l' 11, getL l' 12, getL l' 13, getL l' 14, getL l' 15, getL l' 16, getL l' 17, undef] ∧ Hp sb s F0 s' [Ck.ol OI 3 A0p c0p x34] ∧ x34.length = p0.length) ?_ ?_
  · intro K4 hK4
    refine HT_block ?_
    refine HT_loopK (fun kf l' s' => ∃ (x42 : List (Int)) (x43 : Int) (x44 : Int), (laws_markIntS.l1 p0 kf x42 x43 x44).bind G4 = some r ∧ l' = [.slice A0p p0.length c0p, .int .i64 x43, undef, undef, .int .i64 0, .int .i64 x44, getL l' 6, getL l' 7, getL l' 8, getL l' 9, getL l' 10, getL l' 11, getL l' 12, getL l' 13, getL l' 14, getL l' 15, getL l' 16, getL l' 17, undef] ∧ Hp sb s F0 s' [Ck.ol OI 3 A0p c0p x42] ∧ x42.length = p0.length) ((((p0.length : Int)) - (0)).toNat + 2) ⟨p0, p1, 0, H, rfl, hH, rfl⟩ ?_
    rintro kf l' s55 ⟨x42, x43, x44, H, hl, hH, hl42⟩ K55 hK55
    generalize getL l' 6 = j6, getL l' 7 = j7, getL l' 8 = j8, getL l' 9 = j9, getL l' 10 = j10, getL l' 11 = j11, getL l' 12 = j12, getL l' 13 = j13, getL l' 14 = j14, getL l' 15 = j15, getL l' 16 = j16, getL l' 17 = j17 at hl
    subst hl
    cases kf with
    | zero => simp [laws_markIntS.l1] at H
    | succ kf =>
      rw [laws_markIntS.l1] at H
      refine HT_seq_k ?_
      intro K56 hK56
      refine HT_seq_k ?_
      intro K57 hK57
      refine HT_region ?_
      refine HL_cons rfl ?_
      refine o_move ?_
      try dsimp only [putL, setL, evL, getL]
      refine HL_cons rfl ?_
      refine o_move ?_
      try dsimp only [putL, setL, evL, getL]
      refine HL_cons rfl ?_
      refine o_len rfl Try.underlying22 ?_
      try dsimp only [putL, setL, evL, getL]
      refine HL_cons rfl ?_
      refine o_bin rfl rfl rfl ?_
      try dsimp only [putL, setL, evL, getL]
      refine HL_nil ?_
      refine hK57 _ _ ?_
      rcases Bool.eq_false_or_eq_true (decide (x44 < (p0.length : Int))) with hb58 | hb58
      · replace H := iteT hb58 H
        refine HT_true (congrArg Value.bool hb58) ?_
        refine HT_skip ?_
        refine hK56 _ _ ?_
        refine HT_seq_k ?_
        intro K59 hK59
        refine HT_block ?_
        refine HT_seq_k ?_
        intro K60 hK60
        refine HT_region ?_
        refine HL_cons rfl ?_
        refine o_move ?_
        try dsimp only [putL, setL, evL, getL]
        refine HL_cons rfl ?_
        refine o_move ?_
        try dsimp only [putL, setL, evL, getL]
        refine HL_cons rfl ?_
        refine o_move ?_
        try dsimp only [putL, setL, evL, getL]
        obtain ⟨u61, hu61, H⟩ := headE H
        obtain ⟨b61, o61, cs61, hA61, hr61, hh61, hel61⟩ := hH.elo 0 rfl hu61
        obtain rfl := hr61
        refine HL_cons rfl ?_
        refine hel61 s55 (sliceLen hl42) rfl Try.underlying22 tI3 ?_
        try dsimp only [putL, setL, evL, getL]
        obtain ⟨x62, hx62, H⟩ := headE H
        refine HL_cons rfl ?_
        refine o_setF (vs := [.int .i64 x43]) (u := x43) hH 0 rfl rfl rfl rfl rfl tI3 hA61 hx62 (Ent.own (Ent.flat rfl)) ?_
        intro s62 hH'
        have hl62 := (st?_len hx62).trans hl42
        replace hH : Hp sb s F0 s62 [Ck.ol OI 3 A0p c0p x62] := hH'
        clear hH'
        try dsimp only [putL, setL, evL, getL]
        refine HL_nil ?_
        refine hK60 _ _ ?_
        refine HT_region ?_
        refine HL_cons rfl ?_
        refine o_move ?_
        try dsimp only [putL, setL, evL, getL]
        refine HL_cons rfl ?_
        refine o_bin rfl rfl rfl ?_
        try dsimp only [putL, setL, evL, getL]
        refine HL_cons rfl ?_
        refine o_assign ?_
        try dsimp only [putL, setL, evL, getL]
        refine HL_nil ?_
        refine hK59 _ _ ?_
        refine HT_region ?_
        refine HL_cons rfl ?_
        refine o_move ?_
        try dsimp only [putL, setL, evL, getL]
        refine HL_cons rfl ?_
        refine o_bin rfl rfl rfl ?_
        try dsimp only [putL, setL, evL, getL]
        refine HL_cons rfl ?_
        refine o_assign ?_
        try dsimp only [putL, setL, evL, getL]
        refine HL_nil ?_
        exact hK55 _ _ ⟨kf, Nat.lt_succ_self kf, x62, IntKind.i64.wrap (x43 + 1), IntKind.i64.wrap (x44 + 1), H, rfl, hH, hl62⟩
      · replace H := iteF hb58 H
        refine HT_false (congrArg Value.bool hb58) ?_
        refine HT_exit ?_
        exact hK4 _ _ ⟨x43, x42, H, rfl, hH, hl42⟩
  · rintro l' s63 ⟨x33, x34, H, hl, hH, hl34⟩
    generalize getL l' 5 = j5, getL l' 6 = j6, getL l' 7 = j7, getL l' 8 = j8, getL l' 9 = j9, getL l' 10 = j10, getL l' 11 = j11, getL l' 12 = j12, getL l' 13 = j13, getL l' 14 = j14, getL l' 15 = j15, getL l' 16 = j16, getL l' 17 = j17 at hl
    subst hl
    replace H := hG4 _ H
    try dsimp only at H
    refine hK2 _ _ ?_
    refine HT_seq_k ?_
    intro K64 hK64
    refine HT_region ?_
    refine HL_cons rfl ?_
    refine o_move ?_
    try dsimp only [putL, setL, evL, getL]
    refine HL_cons rfl ?_
    refine o_assign ?_
    try dsimp only [putL, setL, evL, getL]
    refine HL_nil ?_
    refine hK64 _ _ ?_
    refine HT_ret ?_
    obtain rfl := Option.some.inj (show some _ = some r from H)
    exact hQr _ _ [.int .i64 x33] ⟨rfl, trivial⟩ ⟨rfl, hH, hl34⟩
end Go.Proofs.Ytopecknfnhocpaa
