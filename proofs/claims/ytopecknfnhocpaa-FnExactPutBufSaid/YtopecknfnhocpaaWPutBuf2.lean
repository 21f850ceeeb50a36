/- The functions that the law reaches, as plain functions, each with its contract: printed by a program of the prover's. No conditions: lemmas. -/
import Derived.Test.YtopecknfnhocpaaWPutBuf1
set_option linter.unusedVariables false
set_option linter.unusedSimpArgs false
namespace Go.Proofs.Ytopecknfnhocpaa
open Go Go.Proofs.GL
def laws_FnExactPutBuf.f (p0_0 : Int) (p0_1 : List (Int)) (p0_2 : List (Int)) (p0_3 : Int) (p1 : List (Int)) (p2 : List (Int)) : Option Bool := if (decide ((p1.length : Int) > 1048576)) = true then (some true) else (if (decide ((p2.length : Int) > 1048576)) = true then (some true) else ((laws_szBuf.f p0_0 p0_1 p0_2 p0_3 1048576).bind fun u13 => if (decide (u13 < 0)) = true then (some true) else ((laws_toBuf.f p0_0 p0_1 p0_2 p0_3).bind fun u19 => (laws_toIntS.f p1).bind fun u22 => (laws_toIntS.f p2).bind fun u24 => (spec_PutBuf.f u19.1 u19.2.1 u19.2.2.1 u19.2.2.2 u22 u24).bind fun u26 => (laws_toBuf.f p0_0 p0_1 p0_2 p0_3).bind fun u33 => (laws_toIntS.f p1).bind fun u39 => (laws_toIntS.f p2).bind fun u42 => (impl_PutBuf.f u33.1 u33.2.1 u33.2.2.1 u33.2.2.2 u39 u42).bind fun u45 => ((laws_eqBuf.f u45.1 u45.2.1 u45.2.2.1 u45.2.2.2.1 u26.1 u26.2.1 u26.2.2.1 u26.2.2.2.1).bind fun u72 => if (!u72) = true then (some true) else ((laws_eqIntS.f u45.2.2.2.2.1 u26.2.2.2.2.1).bind fun u74 => if (!u74) = true then (some true) else (some (u45.2.2.2.2.2 != u26.2.2.2.2.2)))).bind fun (o : Bool) => match o with | x71 => (if x71 = true then (some false) else ((laws_toBuf.f p0_0 p0_1 p0_2 p0_3).bind fun u81 => (laws_eqBuf.f u33.1 u33.2.1 u33.2.2.1 u33.2.2.2 u81.1 u81.2.1 u81.2.2.1 u81.2.2.2).bind fun u84 => if (!u84) = true then (some false) else ((laws_toIntS.f p1).bind fun u89 => (laws_eqIntS.f u39 u89).bind fun u91 => if (!u91) = true then (some false) else ((laws_toIntS.f p2).bind fun u96 => (laws_eqIntS.f u42 u96).bind fun u98 => if (!u98) = true then (some false) else ((laws_markBuf.f u33.1 u33.2.1 u33.2.2.1 u33.2.2.2 1).bind fun u103 => (laws_markIntS.f u39 u103.1).bind fun u107 => (laws_markIntS.f u42 u107.1).bind fun u110 => (if (decide (u110.1 < 0)) = true then (some true) else ((laws_eqBuf.f u45.1 u45.2.1 u45.2.2.1 u45.2.2.2.1 u26.1 u26.2.1 u26.2.2.1 u26.2.2.2.1).bind fun u137 => if (!u137) = true then (some true) else ((laws_eqIntS.f u45.2.2.2.2.1 u26.2.2.2.2.1).bind fun u139 => if (!u139) = true then (some true) else (some (u45.2.2.2.2.2 != u26.2.2.2.2.2))))).bind fun (o : Bool) => match o with | x135 => (if x135 = true then (some false) else ((laws_markBuf.f u45.1 u45.2.1 u45.2.2.1 u45.2.2.2.1 1).bind fun u146 => (laws_markIntS.f u45.2.2.2.2.1 u146.1).bind fun u150 => (laws_heldBuf.f u45.1 u146.2.1 u146.2.2 u45.2.2.2.1 1).bind fun u154 => if (decide (u154 < 0)) = true then (some false) else ((laws_heldIntS.f u150.2 u154).bind fun u160 => if (decide (u160 < 0)) = true then (some false) else (if (u160 != u150.1) = true then (some false) else ((laws_toBuf.f p0_0 p0_1 p0_2 p0_3).bind fun u170 => (laws_toIntS.f p1).bind fun u173 => (laws_toIntS.f p2).bind fun u175 => (impl_PutBuf.f u170.1 u170.2.1 u170.2.2.1 u170.2.2.2 u173 u175).bind fun u177 => ((laws_eqBuf.f u177.1 u177.2.1 u177.2.2.1 u177.2.2.2.1 u26.1 u26.2.1 u26.2.2.1 u26.2.2.2.1).bind fun u204 => if (!u204) = true then (some true) else ((laws_eqIntS.f u177.2.2.2.2.1 u26.2.2.2.2.1).bind fun u206 => if (!u206) = true then (some true) else (some (u177.2.2.2.2.2 != u26.2.2.2.2.2)))).bind fun (o : Bool) => match o with | x203 => (if x203 = true then (some false) else ((laws_heldBuf.f u45.1 u146.2.1 u146.2.2 u45.2.2.2.1 1).bind fun u213 => if (decide (u213 < 0)) = true then (some false) else ((laws_heldIntS.f u150.2 u213).bind fun u219 => if (decide (u219 < 0)) = true then (some false) else (if (u219 != u150.1) = true then (some false) else (some true))))))))))))))))))
def laws_FnExactPutBuf.post (sb s : St) (F0 : Fp) (r : Bool) : Value → St → Prop := fun v s' => v = .bool r ∧ Hp sb s F0 s' []
set_option maxRecDepth 100000 in
set_option maxHeartbeats 4000000 in
theorem laws_FnExactPutBuf.ok (sb s : St) (F0 : Fp) (p0_0 : Int) (A0_1p : Option Addr) (c0_1p : Nat) (p0_1 : List (Int)) (A0_2p : Option Addr) (c0_2p : Nat) (p0_2 : List (Int)) (p0_3 : Int) (A1p : Option Addr) (c1p : Nat) (p1 : List (Int)) (A2p : Option Addr) (c2p : Nat) (p2 : List (Int)) (HRp0_1 : Rd KI sb A0_1p c0_1p p0_1) (HRp0_2 : Rd KI sb A0_2p c0_2p p0_2) (HRp1 : Rd KI sb A1p c1p p1) (HRp2 : Rd KI sb A2p c2p p2) (hH : Hp sb s F0 s []) (r : Bool) (H : laws_FnExactPutBuf.f p0_0 p0_1 p0_2 p0_3 p1 p2 = some r) : GCall Try.prog 9 #[.agg #[.int .i64 p0_0, .slice A0_1p p0_1.length c0_1p, .slice A0_2p p0_2.length c0_2p, .int .i64 p0_3], .slice A1p p1.length c1p, .slice A2p p2.length c2p] s (laws_FnExactPutBuf.post sb s F0 r) := by
  refine GCall_ofk [.tmp 6] [.agg #[.int .i64 p0_0, .slice A0_1p p0_1.length c0_1p, .slice A0_2p p0_2.length c0_2p, .int .i64 p0_3], .slice A1p p1.length c1p, .slice A2p p2.length c2p, undef, undef, undef, undef, undef, undef, undef, undef, undef, undef, undef, undef, undef, undef, undef, undef, undef, undef, undef, undef, undef, undef, undef, undef, undef, undef, undef, undef, undef, undef, undef, undef, undef, undef, undef, undef, undef, undef, undef, undef, undef, undef, undef, undef, undef, undef, undef, undef, undef, undef, undef, undef, undef, undef, undef, undef, undef, undef, undef, undef, undef, undef, undef, undef, undef, undef, undef, undef, undef, undef, undef, undef, undef, undef, undef, undef, undef, undef, undef, undef, undef, undef, undef, undef, undef, undef, undef, undef, undef, undef, undef, undef, undef, undef, undef, undef, undef, undef, undef, undef, undef, undef, undef, undef, undef, undef, undef, undef, undef, undef, undef, undef, undef, undef, undef, undef, undef, undef, undef, undef, undef, undef, undef, undef, undef, undef, undef, undef, undef, undef, undef, undef, undef, undef, undef, undef, undef, undef, undef, undef, undef, undef, undef, undef, undef, undef, undef, undef, undef, undef, undef, undef, undef, undef, undef, undef, undef, undef, undef, undef, undef, undef, undef, undef, undef, undef, undef, undef, undef, undef, undef, undef] Try.func9 rfl rfl rfl ?_
  intro w Q hQr hQn hQp
  replace H := topE H
  unfold laws_FnExactPutBuf.f at H
  refine HT_seq_k ?_
  intro K1 hK1
  refine HT_region ?_
  refine HL_cons rfl ?_
  refine o_boxH hH rfl ?_
  intro b2 s2 hH' hG
  replace hH : Hp sb s F0 s2 [Ck.ov b2 [.int .i64 p0_0, .slice A0_1p p0_1.length c0_1p, .slice A0_2p p0_2.length c0_2p, .int .i64 p0_3] 29] := hH'
  clear hH' hG
  try dsimp only [putL, setL, evL, getL]
  refine HL_cons rfl ?_
  refine o_assign ?_
  try dsimp only [putL, setL, evL, getL]
  refine HL_nil ?_
  refine hK1 _ _ ?_
  refine HT_seq_k ?_
  intro K3 hK3
  refine HT_seq_k ?_
  intro K4 hK4
  refine HT_region ?_
  refine HL_cons rfl ?_
  refine o_move ?_
  try dsimp only [putL, setL, evL, getL]
  refine HL_cons rfl ?_
  refine o_len rfl Try.underlying22 ?_
  try dsimp only [putL, setL, evL, getL]
  refine HL_cons rfl ?_
  refine o_bin rfl rfl rfl ?_
  try dsimp only [putL, setL, evL, getL]
  refine HL_nil ?_
  refine hK4 _ _ ?_
  rcases Bool.eq_false_or_eq_true (decide ((p1.length : Int) > 1048576)) with hb5 | hb5
  · replace H := iteT hb5 H
    refine HT_true (congrArg Value.bool hb5) ?_
    refine HT_seq_k ?_
    intro K6 hK6
    refine HT_region ?_
    refine HL_cons rfl ?_
    refine o_assign ?_
    try dsimp only [putL, setL, evL, getL]
    refine HL_nil ?_
    refine hK6 _ _ ?_
    refine HT_ret ?_
    obtain rfl := Option.some.inj (show some _ = some r from H)
    exact hQr _ _ [.bool true] ⟨rfl, trivial⟩ ⟨rfl, hH.sel [] (by decide)⟩
  · replace H := iteF hb5 H
    refine HT_false (congrArg Value.bool hb5) ?_
    refine HT_skip ?_
    refine hK3 _ _ ?_
    refine HT_seq_k ?_
    intro K7 hK7
    refine HT_seq_k ?_
    intro K8 hK8
    refine HT_region ?_
    refine HL_cons rfl ?_
    refine o_move ?_
    try dsimp only [putL, setL, evL, getL]
    refine HL_cons rfl ?_
    refine o_len rfl Try.underlying22 ?_
    try dsimp only [putL, setL, evL, getL]
    refine HL_cons rfl ?_
    refine o_bin rfl rfl rfl ?_
    try dsimp only [putL, setL, evL, getL]
    refine HL_nil ?_
    refine hK8 _ _ ?_
    rcases Bool.eq_false_or_eq_true (decide ((p2.length : Int) > 1048576)) with hb9 | hb9
    · replace H := iteT hb9 H
      refine HT_true (congrArg Value.bool hb9) ?_
      refine HT_seq_k ?_
      intro K10 hK10
      refine HT_region ?_
      refine HL_cons rfl ?_
      refine o_assign ?_
      try dsimp only [putL, setL, evL, getL]
      refine HL_nil ?_
      refine hK10 _ _ ?_
      refine HT_ret ?_
      obtain rfl := Option.some.inj (show some _ = some r from H)
      exact hQr _ _ [.bool true] ⟨rfl, trivial⟩ ⟨rfl, hH.sel [] (by decide)⟩
    · replace H := iteF hb9 H
      refine HT_false (congrArg Value.bool hb9) ?_
      refine HT_skip ?_
      refine hK7 _ _ ?_
      refine HT_seq_k ?_
      intro K11 hK11
      refine HT_region ?_
      refine HL_cons rfl ?_
      refine o_assign ?_
      try dsimp only [putL, setL, evL, getL]
      refine HL_nil ?_
      refine hK11 _ _ ?_
      refine HT_seq_k ?_
      intro K12 hK12
      refine HT_region ?_
      refine HL_cons rfl ?_
      refine o_loads' [.int .i64 p0_0, .slice A0_1p p0_1.length c0_1p, .slice A0_2p p0_2.length c0_2p, .int .i64 p0_3] rfl Try.underlying29 rfl tI29 rfl (hH.partv 0 rfl (0) [.int .i64 p0_0, .slice A0_1p p0_1.length c0_1p, .slice A0_2p p0_2.length c0_2p, .int .i64 p0_3] rfl) ?_
      try dsimp only [putL, setL, evL, getL]
      refine HL_cons rfl ?_
      refine o_move ?_
      try dsimp only [putL, setL, evL, getL]
      obtain ⟨u13, hu13, H⟩ := headE H
      refine HL_cons rfl ?_
      refine o_call (args := #[.agg #[.int .i64 p0_0, .slice A0_1p p0_1.length c0_1p, .slice A0_2p p0_2.length c0_2p, .int .i64 p0_3], .int .i64 1048576]) Try.func21 rfl rfl rfl (laws_szBuf.ok sb s2 no p0_0 A0_1p c0_1p p0_1 A0_2p c0_2p p0_2 p0_3 1048576 HRp0_1 HRp0_2 (Hp.own hH.bs) _ hu13) ?_
      rintro _ s13 ⟨rfl, hD⟩
      replace hH := hH.back0 hD (Up.refl _ _ _)
      clear hD
      dsimp only [addC, setC, rmC, selC, getC] at hH
      try dsimp only [putL, setL, evL, getL]
      refine HL_cons rfl ?_
      refine o_assign ?_
      try dsimp only [putL, setL, evL, getL]
      refine HL_nil ?_
      refine hK12 _ _ ?_
      refine HT_seq_k ?_
      intro K14 hK14
      refine HT_seq_k ?_
      intro K15 hK15
      refine HT_region ?_
      refine HL_cons rfl ?_
      refine o_move ?_
      try dsimp only [putL, setL, evL, getL]
      refine HL_cons rfl ?_
      refine o_bin rfl rfl rfl ?_
      try dsimp only [putL, setL, evL, getL]
      refine HL_nil ?_
      refine hK15 _ _ ?_
      rcases Bool.eq_false_or_eq_true (decide (u13 < 0)) with hb16 | hb16
      · replace H := iteT hb16 H
        refine HT_true (congrArg Value.bool hb16) ?_
        refine HT_seq_k ?_
        intro K17 hK17
        refine HT_region ?_
        refine HL_cons rfl ?_
        refine o_assign ?_
        try dsimp only [putL, setL, evL, getL]
        refine HL_nil ?_
        refine hK17 _ _ ?_
        refine HT_ret ?_
        obtain rfl := Option.some.inj (show some _ = some r from H)
        exact hQr _ _ [.bool true] ⟨rfl, trivial⟩ ⟨rfl, hH.sel [] (by decide)⟩
      · replace H := iteF hb16 H
        refine HT_false (congrArg Value.bool hb16) ?_
        refine HT_skip ?_
        refine hK14 _ _ ?_
        refine HT_seq_k ?_
        intro K18 hK18
        refine HT_region ?_
        refine HL_cons rfl ?_
        refine o_loads' [.int .i64 p0_0, .slice A0_1p p0_1.length c0_1p, .slice A0_2p p0_2.length c0_2p, .int .i64 p0_3] rfl Try.underlying29 rfl tI29 rfl (hH.partv 0 rfl (0) [.int .i64 p0_0, .slice A0_1p p0_1.length c0_1p, .slice A0_2p p0_2.length c0_2p, .int .i64 p0_3] rfl) ?_
        try dsimp only [putL, setL, evL, getL]
        obtain ⟨u19, hu19, H⟩ := headE H
        refine HL_cons rfl ?_
        refine o_call (args := #[.agg #[.int .i64 p0_0, .slice A0_1p p0_1.length c0_1p, .slice A0_2p p0_2.length c0_2p, .int .i64 p0_3]]) Try.func23 rfl rfl rfl (laws_toBuf.ok sb s13 no p0_0 A0_1p c0_1p p0_1 A0_2p c0_2p p0_2 p0_3 HRp0_1 HRp0_2 (Hp.own hH.bs) _ hu19) ?_
        rintro _ s19 ⟨A20, c20, A21, c21, rfl, hD⟩
        replace hH := hH.back0 hD (Up.refl _ _ _)
        clear hD
        dsimp only [addC, setC, rmC, selC, getC] at hH
        try dsimp only [putL, setL, evL, getL]
        refine HL_cons rfl ?_
        refine o_move ?_
        try dsimp only [putL, setL, evL, getL]
        obtain ⟨u22, hu22, H⟩ := headE H
        refine HL_cons rfl ?_
        refine o_call (args := #[.slice A1p p1.length c1p]) Try.func16 rfl rfl rfl (laws_toIntS.ok sb s19 no A1p c1p p1 HRp1 (Hp.own hH.bs) _ hu22) ?_
        rintro _ s22 ⟨A23, c23, rfl, hD⟩
        replace hH := hH.back0 hD (Up.refl _ _ _)
        clear hD
        dsimp only [addC, setC, rmC, selC, getC] at hH
        try dsimp only [putL, setL, evL, getL]
        refine HL_cons rfl ?_
        refine o_move ?_
        try dsimp only [putL, setL, evL, getL]
        obtain ⟨u24, hu24, H⟩ := headE H
        refine HL_cons rfl ?_
        refine o_call (args := #[.slice A2p p2.length c2p]) Try.func16 rfl rfl rfl (laws_toIntS.ok sb s22 no A2p c2p p2 HRp2 (Hp.own hH.bs) _ hu24) ?_
        rintro _ s24 ⟨A25, c25, rfl, hD⟩
        replace hH := hH.back0 hD (Up.refl _ _ _)
        clear hD
        dsimp only [addC, setC, rmC, selC, getC] at hH
        try dsimp only [putL, setL, evL, getL]
        obtain ⟨u26, hu26, H⟩ := headE H
        refine HL_cons rfl ?_
        refine o_call (args := #[.agg #[.int .i64 u19.1, .slice A20 u19.2.1.length c20, .slice A21 u19.2.2.1.length c21, .int .i64 u19.2.2.2], .slice A23 u22.length c23, .slice A25 u24.length c25]) Try.func44 rfl rfl rfl (spec_PutBuf.ok s24 s24 no u19.1 A20 c20 u19.2.1 A21 c21 u19.2.2.1 u19.2.2.2 A23 c23 u22 A25 c25 u24 (hH.rd 1 rfl) (hH.rd 2 rfl) (hH.rd 3 rfl) (hH.rd 4 rfl) (Hp.own (Bs.refl s24)) _ hu26) ?_
        rintro _ s26 ⟨A27, c27, A28, c28, A29, c29, rfl, hD⟩
        replace hH := hH.back0T hD
        clear hD
        dsimp only [addC, setC, rmC, selC, getC] at hH
        try dsimp only [putL, setL, evL, getL]
        refine HL_cons rfl ?_
        refine o_move ?_
        try dsimp only [putL, setL, evL, getL]
        refine HL_cons rfl ?_
        refine o_extract rfl rfl ?_
        try dsimp only [putL, setL, evL, getL]
        refine HL_cons rfl ?_
        refine o_extract rfl rfl ?_
        try dsimp only [putL, setL, evL, getL]
        refine HL_cons rfl ?_
        refine o_extract rfl rfl ?_
        try dsimp only [putL, setL, evL, getL]
        refine HL_cons rfl ?_
        refine o_allocH hH tI31 ?_
        intro b30 s30 hH' hG
        replace hH : Hp sb s F0 s30 [Ck.ov b2 [.int .i64 p0_0, .slice A0_1p p0_1.length c0_1p, .slice A0_2p p0_2.length c0_2p, .int .i64 p0_3] 29, Ck.ol OI 3 A20 c20 u19.2.1, Ck.ol OI 3 A21 c21 u19.2.2.1, Ck.ol OI 3 A23 c23 u22, Ck.ol OI 3 A25 c25 u24, Ck.ol OI 3 A27 c27 u26.2.1, Ck.ol OI 3 A28 c28 u26.2.2.1, Ck.ol OI 3 A29 c29 u26.2.2.2.2.1, Ck.ov b30 [.int .i64 0, .slice none 0 0, .slice none 0 0, .int .i64 0] 31] := hH'
        clear hH' hG
        try dsimp only [putL, setL, evL, getL]
        refine HL_cons rfl ?_
        refine o_stvH (vs := [.int .i64 u26.1, .slice A27 u26.2.1.length c27, .slice A28 u26.2.2.1.length c28, .int .i64 u26.2.2.2.1]) (us' := [.int .i64 u26.1, .slice A27 u26.2.1.length c27, .slice A28 u26.2.2.1.length c28, .int .i64 u26.2.2.2.1]) hH 8 rfl rfl rfl rfl rfl tI31 rfl (List.cons_ne_nil _ _) rfl rfl rfl ?_
        intro s31 hH'
        replace hH : Hp sb s F0 s31 [Ck.ov b2 [.int .i64 p0_0, .slice A0_1p p0_1.length c0_1p, .slice A0_2p p0_2.length c0_2p, .int .i64 p0_3] 29, Ck.ol OI 3 A20 c20 u19.2.1, Ck.ol OI 3 A21 c21 u19.2.2.1, Ck.ol OI 3 A23 c23 u22, Ck.ol OI 3 A25 c25 u24, Ck.ol OI 3 A27 c27 u26.2.1, Ck.ol OI 3 A28 c28 u26.2.2.1, Ck.ol OI 3 A29 c29 u26.2.2.2.2.1, Ck.ov b30 [.int .i64 u26.1, .slice A27 u26.2.1.length c27, .slice A28 u26.2.2.1.length c28, .int .i64 u26.2.2.2.1] 31] := hH'
        clear hH'
        try dsimp only [putL, setL, evL, getL]
        refine HL_cons rfl ?_
        refine o_assign ?_
        try dsimp only [putL, setL, evL, getL]
        refine HL_cons rfl ?_
        refine o_assign ?_
        try dsimp only [putL, setL, evL, getL]
        refine HL_nil ?_
        refine hK18 _ _ ?_
        refine HT_seq_k ?_
        intro K32 hK32
        refine HT_region ?_
        refine HL_cons rfl ?_
        refine o_loads' [.int .i64 p0_0, .slice A0_1p p0_1.length c0_1p, .slice A0_2p p0_2.length c0_2p, .int .i64 p0_3] rfl Try.underlying29 rfl tI29 rfl (hH.partv 0 rfl (0) [.int .i64 p0_0, .slice A0_1p p0_1.length c0_1p, .slice A0_2p p0_2.length c0_2p, .int .i64 p0_3] rfl) ?_
        try dsimp only [putL, setL, evL, getL]
        obtain ⟨u33, hu33, H⟩ := headE H
        refine HL_cons rfl ?_
        refine o_call (args := #[.agg #[.int .i64 p0_0, .slice A0_1p p0_1.length c0_1p, .slice A0_2p p0_2.length c0_2p, .int .i64 p0_3]]) Try.func23 rfl rfl rfl (laws_toBuf.ok sb s31 no p0_0 A0_1p c0_1p p0_1 A0_2p c0_2p p0_2 p0_3 HRp0_1 HRp0_2 (Hp.own hH.bs) _ hu33) ?_
        rintro _ s33 ⟨A34, c34, A35, c35, rfl, hD⟩
        replace hH := hH.back0 hD (Up.refl _ _ _)
        clear hD
        dsimp only [addC, setC, rmC, selC, getC] at hH
        try dsimp only [putL, setL, evL, getL]
        refine HL_cons rfl ?_
        refine o_allocH hH tI31 ?_
        intro b36 s36 hH' hG
        replace hH : Hp sb s F0 s36 [Ck.ov b2 [.int .i64 p0_0, .slice A0_1p p0_1.length c0_1p, .slice A0_2p p0_2.length c0_2p, .int .i64 p0_3] 29, Ck.ol OI 3 A20 c20 u19.2.1, Ck.ol OI 3 A21 c21 u19.2.2.1, Ck.ol OI 3 A23 c23 u22, Ck.ol OI 3 A25 c25 u24, Ck.ol OI 3 A27 c27 u26.2.1, Ck.ol OI 3 A28 c28 u26.2.2.1, Ck.ol OI 3 A29 c29 u26.2.2.2.2.1, Ck.ov b30 [.int .i64 u26.1, .slice A27 u26.2.1.length c27, .slice A28 u26.2.2.1.length c28, .int .i64 u26.2.2.2.1] 31, Ck.ol OI 3 A34 c34 u33.2.1, Ck.ol OI 3 A35 c35 u33.2.2.1, Ck.ov b36 [.int .i64 0, .slice none 0 0, .slice none 0 0, .int .i64 0] 31] := hH'
        clear hH' hG
        try dsimp only [putL, setL, evL, getL]
        refine HL_cons rfl ?_
        refine o_stvH (vs := [.int .i64 u33.1, .slice A34 u33.2.1.length c34, .slice A35 u33.2.2.1.length c35, .int .i64 u33.2.2.2]) (us' := [.int .i64 u33.1, .slice A34 u33.2.1.length c34, .slice A35 u33.2.2.1.length c35, .int .i64 u33.2.2.2]) hH 11 rfl rfl rfl rfl rfl tI31 rfl (List.cons_ne_nil _ _) rfl rfl rfl ?_
        intro s37 hH'
        replace hH : Hp sb s F0 s37 [Ck.ov b2 [.int .i64 p0_0, .slice A0_1p p0_1.length c0_1p, .slice A0_2p p0_2.length c0_2p, .int .i64 p0_3] 29, Ck.ol OI 3 A20 c20 u19.2.1, Ck.ol OI 3 A21 c21 u19.2.2.1, Ck.ol OI 3 A23 c23 u22, Ck.ol OI 3 A25 c25 u24, Ck.ol OI 3 A27 c27 u26.2.1, Ck.ol OI 3 A28 c28 u26.2.2.1, Ck.ol OI 3 A29 c29 u26.2.2.2.2.1, Ck.ov b30 [.int .i64 u26.1, .slice A27 u26.2.1.length c27, .slice A28 u26.2.2.1.length c28, .int .i64 u26.2.2.2.1] 31, Ck.ol OI 3 A34 c34 u33.2.1, Ck.ol OI 3 A35 c35 u33.2.2.1, Ck.ov b36 [.int .i64 u33.1, .slice A34 u33.2.1.length c34, .slice A35 u33.2.2.1.length c35, .int .i64 u33.2.2.2] 31] := hH'
        clear hH'
        try dsimp only [putL, setL, evL, getL]
        refine HL_nil ?_
        refine hK32 _ _ ?_
        refine HT_seq_k ?_
        intro K38 hK38
        refine HT_region ?_
        refine HL_cons rfl ?_
        refine o_move ?_
        try dsimp only [putL, setL, evL, getL]
        obtain ⟨u39, hu39, H⟩ := headE H
        refine HL_cons rfl ?_
        refine o_call (args := #[.slice A1p p1.length c1p]) Try.func16 rfl rfl rfl (laws_toIntS.ok sb s37 no A1p c1p p1 HRp1 (Hp.own hH.bs) _ hu39) ?_
        rintro _ s39 ⟨A40, c40, rfl, hD⟩
        replace hH := hH.back0 hD (Up.refl _ _ _)
        clear hD
        dsimp only [addC, setC, rmC, selC, getC] at hH
        try dsimp only [putL, setL, evL, getL]
        refine HL_cons rfl ?_
        refine o_assign ?_
        try dsimp only [putL, setL, evL, getL]
        refine HL_nil ?_
        refine hK38 _ _ ?_
        refine HT_seq_k ?_
        intro K41 hK41
        refine HT_region ?_
        refine HL_cons rfl ?_
        refine o_move ?_
        try dsimp only [putL, setL, evL, getL]
        obtain ⟨u42, hu42, H⟩ := headE H
        refine HL_cons rfl ?_
        refine o_call (args := #[.slice A2p p2.length c2p]) Try.func16 rfl rfl rfl (laws_toIntS.ok sb s39 no A2p c2p p2 HRp2 (Hp.own hH.bs) _ hu42) ?_
        rintro _ s42 ⟨A43, c43, rfl, hD⟩
        replace hH := hH.back0 hD (Up.refl _ _ _)
        clear hD
        dsimp only [addC, setC, rmC, selC, getC] at hH
        try dsimp only [putL, setL, evL, getL]
        refine HL_cons rfl ?_
        refine o_assign ?_
        try dsimp only [putL, setL, evL, getL]
        refine HL_nil ?_
        refine hK41 _ _ ?_
        refine HT_seq_k ?_
        intro K44 hK44
        refine HT_region ?_
        refine HL_cons rfl ?_
        refine o_loads' [.int .i64 u33.1, .slice A34 u33.2.1.length c34, .slice A35 u33.2.2.1.length c35, .int .i64 u33.2.2.2] rfl Try.underlying31 rfl tI31 rfl (hH.partv 11 rfl (0) [.int .i64 u33.1, .slice A34 u33.2.1.length c34, .slice A35 u33.2.2.1.length c35, .int .i64 u33.2.2.2] rfl) ?_
        try dsimp only [putL, setL, evL, getL]
        refine HL_cons rfl ?_
        refine o_move ?_
        try dsimp only [putL, setL, evL, getL]
        refine HL_cons rfl ?_
        refine o_move ?_
        try dsimp only [putL, setL, evL, getL]
        obtain ⟨u45, hu45, H⟩ := headE H
        refine HL_cons rfl ?_
        refine o_call (args := #[.agg #[.int .i64 u33.1, .slice A34 u33.2.1.length c34, .slice A35 u33.2.2.1.length c35, .int .i64 u33.2.2.2], .slice A40 u39.length c40, .slice A43 u42.length c43]) Try.func45 rfl rfl rfl (impl_PutBuf.ok s42 s42 no u33.1 A34 c34 u33.2.1 A35 c35 u33.2.2.1 u33.2.2.2 A40 c40 u39 A43 c43 u42 (hH.rd 9 rfl) (hH.rd 10 rfl) (hH.rd 12 rfl) (hH.rd 13 rfl) (Hp.own (Bs.refl s42)) _ hu45) ?_
        rintro _ s45 ⟨A46, c46, A47, c47, A48, c48, rfl, hD⟩
        replace hH := hH.back0T hD
        clear hD
        dsimp only [addC, setC, rmC, selC, getC] at hH
        try dsimp only [putL, setL, evL, getL]
        refine HL_cons rfl ?_
        refine o_move ?_
        try dsimp only [putL, setL, evL, getL]
        refine HL_cons rfl ?_
        refine o_extract rfl rfl ?_
        try dsimp only [putL, setL, evL, getL]
        refine HL_cons rfl ?_
        refine o_extract rfl rfl ?_
        try dsimp only [putL, setL, evL, getL]
        refine HL_cons rfl ?_
        refine o_extract rfl rfl ?_
        try dsimp only [putL, setL, evL, getL]
        refine HL_cons rfl ?_
        refine o_allocH hH tI31 ?_
        intro b49 s49 hH' hG
        replace hH : Hp sb s F0 s49 [Ck.ov b2 [.int .i64 p0_0, .slice A0_1p p0_1.length c0_1p, .slice A0_2p p0_2.length c0_2p, .int .i64 p0_3] 29, Ck.ol OI 3 A20 c20 u19.2.1, Ck.ol OI 3 A21 c21 u19.2.2.1, Ck.ol OI 3 A23 c23 u22, Ck.ol OI 3 A25 c25 u24, Ck.ol OI 3 A27 c27 u26.2.1, Ck.ol OI 3 A28 c28 u26.2.2.1, Ck.ol OI 3 A29 c29 u26.2.2.2.2.1, Ck.ov b30 [.int .i64 u26.1, .slice A27 u26.2.1.length c27, .slice A28 u26.2.2.1.length c28, .int .i64 u26.2.2.2.1] 31, Ck.ol OI 3 A34 c34 u33.2.1, Ck.ol OI 3 A35 c35 u33.2.2.1, Ck.ov b36 [.int .i64 u33.1, .slice A34 u33.2.1.length c34, .slice A35 u33.2.2.1.length c35, .int .i64 u33.2.2.2] 31, Ck.ol OI 3 A40 c40 u39, Ck.ol OI 3 A43 c43 u42, Ck.ol OI 3 A46 c46 u45.2.1, Ck.ol OI 3 A47 c47 u45.2.2.1, Ck.ol OI 3 A48 c48 u45.2.2.2.2.1, Ck.ov b49 [.int .i64 0, .slice none 0 0, .slice none 0 0, .int .i64 0] 31] := hH'
        clear hH' hG
        try dsimp only [putL, setL, evL, getL]
        refine HL_cons rfl ?_
        refine o_stvH (vs := [.int .i64 u45.1, .slice A46 u45.2.1.length c46, .slice A47 u45.2.2.1.length c47, .int .i64 u45.2.2.2.1]) (us' := [.int .i64 u45.1, .slice A46 u45.2.1.length c46, .slice A47 u45.2.2.1.length c47, .int .i64 u45.2.2.2.1]) hH 17 rfl rfl rfl rfl rfl tI31 rfl (List.cons_ne_nil _ _) rfl rfl rfl ?_
        intro s50 hH'
        replace hH : Hp sb s F0 s50 [Ck.ov b2 [.int .i64 p0_0, .slice A0_1p p0_1.length c0_1p, .slice A0_2p p0_2.length c0_2p, .int .i64 p0_3] 29, Ck.ol OI 3 A20 c20 u19.2.1, Ck.ol OI 3 A21 c21 u19.2.2.1, Ck.ol OI 3 A23 c23 u22, Ck.ol OI 3 A25 c25 u24, Ck.ol OI 3 A27 c27 u26.2.1, Ck.ol OI 3 A28 c28 u26.2.2.1, Ck.ol OI 3 A29 c29 u26.2.2.2.2.1, Ck.ov b30 [.int .i64 u26.1, .slice A27 u26.2.1.length c27, .slice A28 u26.2.2.1.length c28, .int .i64 u26.2.2.2.1] 31, Ck.ol OI 3 A34 c34 u33.2.1, Ck.ol OI 3 A35 c35 u33.2.2.1, Ck.ov b36 [.int .i64 u33.1, .slice A34 u33.2.1.length c34, .slice A35 u33.2.2.1.length c35, .int .i64 u33.2.2.2] 31, Ck.ol OI 3 A40 c40 u39, Ck.ol OI 3 A43 c43 u42, Ck.ol OI 3 A46 c46 u45.2.1, Ck.ol OI 3 A47 c47 u45.2.2.1, Ck.ol OI 3 A48 c48 u45.2.2.2.2.1, Ck.ov b49 [.int .i64 u45.1, .slice A46 u45.2.1.length c46, .slice A47 u45.2.2.1.length c47, .int .i64 u45.2.2.2.1] 31] := hH'
        clear hH'
        try dsimp only [putL, setL, evL, getL]
        refine HL_cons rfl ?_
        refine o_assign ?_
        try dsimp only [putL, setL, evL, getL]
        refine HL_cons rfl ?_
        refine o_assign ?_
        try dsimp only [putL, setL, evL, getL]
        refine HL_nil ?_
        refine hK44 _ _ ?_
        refine HT_seq_k ?_
        intro K65 hK65
        refine joinH H fun G66 hG66 H => ?_
        refine HT_joinK (fun l' s' => ∃ (x71 : Bool), G66 x71 = some r ∧ l' = [.agg #[.int .i64 p0_0, .slice A0_1p p0_1.length c0_1p, .slice A0_2p p0_2.length c0_2p, .int .i64 p0_3], .slice A1p p1.length c1p, .slice A2p p2.length c2p, .pointer (some ⟨b2, 0, none⟩), undef, undef, .bool false, .int .i64 u13, .pointer (some ⟨b30, 0, none⟩), .slice A29 u26.2.2.2.2.1.length c29, .bool u26.2.2.2.2.2, .pointer (some ⟨b36, 0, none⟩), .slice A40 u39.length c40, .slice A43 u42.length c43, .pointer (some ⟨b49, 0, none⟩), .slice A48 u45.2.2.2.2.1.length c48, .bool u45.2.2.2.2.2, undef, undef, undef, undef, undef, undef, .slice A1p p1.length c1p, .int .i64 (p1.length : Int), .bool (decide ((p1.length : Int) > 1048576)), .slice A2p p2.length c2p, .int .i64 (p2.length : Int), .bool (decide ((p2.length : Int) > 1048576)), .agg #[.int .i64 p0_0, .slice A0_1p p0_1.length c0_1p, .slice A0_2p p0_2.length c0_2p, .int .i64 p0_3], .int .i64 1048576, .int .i64 u13, .int .i64 u13, .bool (decide (u13 < 0)), .tuple #[.agg #[.int .i64 u26.1, .slice A27 u26.2.1.length c27, .slice A28 u26.2.2.1.length c28, .int .i64 u26.2.2.2.1], .slice A29 u26.2.2.2.2.1.length c29, .bool u26.2.2.2.2.2], .agg #[.int .i64 p0_0, .slice A0_1p p0_1.length c0_1p, .slice A0_2p p0_2.length c0_2p, .int .i64 p0_3], .agg #[.int .i64 u19.1, .slice A20 u19.2.1.length c20, .slice A21 u19.2.2.1.length c21, .int .i64 u19.2.2.2], .slice A1p p1.length c1p, .slice A23 u22.length c23, .slice A2p p2.length c2p, .slice A25 u24.length c25, .tuple #[.agg #[.int .i64 u26.1, .slice A27 u26.2.1.length c27, .slice A28 u26.2.2.1.length c28, .int .i64 u26.2.2.2.1], .slice A29 u26.2.2.2.2.1.length c29, .bool u26.2.2.2.2.2], .agg #[.int .i64 u26.1, .slice A27 u26.2.1.length c27, .slice A28 u26.2.2.1.length c28, .int .i64 u26.2.2.2.1], .slice A29 u26.2.2.2.2.1.length c29, .bool u26.2.2.2.2.2, .agg #[.int .i64 p0_0, .slice A0_1p p0_1.length c0_1p, .slice A0_2p p0_2.length c0_2p, .int .i64 p0_3], .agg #[.int .i64 u33.1, .slice A34 u33.2.1.length c34, .slice A35 u33.2.2.1.length c35, .int .i64 u33.2.2.2], .slice A1p p1.length c1p, .slice A40 u39.length c40, .slice A2p p2.length c2p, .slice A43 u42.length c43, .tuple #[.agg #[.int .i64 u45.1, .slice A46 u45.2.1.length c46, .slice A47 u45.2.2.1.length c47, .int .i64 u45.2.2.2.1], .slice A48 u45.2.2.2.2.1.length c48, .bool u45.2.2.2.2.2], .agg #[.int .i64 u33.1, .slice A34 u33.2.1.length c34, .slice A35 u33.2.2.1.length c35, .int .i64 u33.2.2.2], .slice A40 u39.length c40, .slice A43 u42.length c43, .tuple #[.agg #[.int .i64 u45.1, .slice A46 u45.2.1.length c46, .slice A47 u45.2.2.1.length c47, .int .i64 u45.2.2.2.1], .slice A48 u45.2.2.2.2.1.length c48, .bool u45.2.2.2.2.2], .agg #[.int .i64 u45.1, .slice A46 u45.2.1.length c46, .slice A47 u45.2.2.1.length c47, .int .i64 u45.2.2.2.1], .slice A48 u45.2.2.2.2.1.length c48, .bool u45.2.2.2.2.2, getL l' 59, getL l' 60, getL l' 61, getL l' 62, getL l' 63, getL l' 64, getL l' 65, getL l' 66, getL l' 67, getL l' 68, getL l' 69, getL l' 70, getL l' 71, getL l' 72, .bool x71, undef, undef, undef, undef, undef, undef, undef, undef, undef, undef, undef, undef, undef, undef, undef, undef, undef, undef, undef, undef, undef, undef, undef, undef, undef, undef, undef, undef, undef, undef, undef, undef, undef, undef, undef, undef, undef, undef, undef, undef, undef, undef, undef, undef, undef, undef, undef, undef, undef, undef, undef, undef, undef, undef, undef, undef, undef, undef, undef, undef, undef, undef, undef, undef, undef, undef, undef, undef, undef, undef, undef, undef, undef, undef, undef, undef, undef, undef, undef, undef, undef, undef, undef, undef, undef, undef, undef, undef, undef, undef, undef, undef, undef, undef, undef, undef, undef, undef, undef, undef, undef] ∧ Hp sb s F0 s' [Ck.ol OI 3 A29 c29 u26.2.2.2.2.1, Ck.ol OI 3 A40 c40 u39, Ck.ol OI 3 A43 c43 u42, Ck.ol OI 3 A48 c48 u45.2.2.2.2.1, Ck.ol OI 3 A27 c27 u26.2.1, Ck.ol OI 3 A28 c28 u26.2.2.1, Ck.ol OI 3 A34 c34 u33.2.1, Ck.ol OI 3 A35 c35 u33.2.2.1, Ck.ol OI 3 A46 c46 u45.2.1, Ck.ol OI 3 A47 c47 u45.2.2.1, Ck.ov b2 [.int .i64 p0_0, .slice A0_1p p0_1.length c0_1p, .slice A0_2p p0_2.length c0_2p, .int .i64 p0_3] 29, Ck.ov b30 [.int .i64 u26.1, .slice A27 u26.2.1.length c27, .slice A28 u26.2.2.1.length c28, .int .i64 u26.2.2.2.1] 31, Ck.ov b36 [.int .i64 u33.1, .slice A34 u33.2.1.length c34, .slice A35 u33.2.2.1.length c35, .int .i64 u33.2.2.2] 31, Ck.ov b49 [.int .i64 u45.1, .slice A46 u45.2.1.length c46, .slice A47 u45.2.2.1.length c47, .int .i64 u45.2.2.2.1] 31]) ?_ ?_
        · intro K66 hK66
          refine HT_region ?_
          refine HL_cons rfl ?_
          refine o_loads' [.int .i64 u45.1, .slice A46 u45.2.1.length c46, .slice A47 u45.2.2.1.length c47, .int .i64 u45.2.2.2.1] rfl Try.underlying31 rfl tI31 rfl (hH.partv 17 rfl (0) [.int .i64 u45.1, .slice A46 u45.2.1.length c46, .slice A47 u45.2.2.1.length c47, .int .i64 u45.2.2.2.1] rfl) ?_
          try dsimp only [putL, setL, evL, getL]
          refine HL_cons rfl ?_
          refine o_loads' [.int .i64 u26.1, .slice A27 u26.2.1.length c27, .slice A28 u26.2.2.1.length c28, .int .i64 u26.2.2.2.1] rfl Try.underlying31 rfl tI31 rfl (hH.partv 8 rfl (0) [.int .i64 u26.1, .slice A27 u26.2.1.length c27, .slice A28 u26.2.2.1.length c28, .int .i64 u26.2.2.2.1] rfl) ?_
          try dsimp only [putL, setL, evL, getL]
          obtain ⟨u72, hu72, H⟩ := headE H
          refine HL_cons rfl ?_
          refine o_call (args := #[.agg #[.int .i64 u45.1, .slice A46 u45.2.1.length c46, .slice A47 u45.2.2.1.length c47, .int .i64 u45.2.2.2.1], .agg #[.int .i64 u26.1, .slice A27 u26.2.1.length c27, .slice A28 u26.2.2.1.length c28, .int .i64 u26.2.2.2.1]]) Try.func25 rfl rfl rfl (laws_eqBuf.ok s50 s50 no u45.1 A46 c46 u45.2.1 A47 c47 u45.2.2.1 u45.2.2.2.1 u26.1 A27 c27 u26.2.1 A28 c28 u26.2.2.1 u26.2.2.2.1 (hH.rd 14 rfl) (hH.rd 15 rfl) (hH.rd 5 rfl) (hH.rd 6 rfl) (Hp.own (Bs.refl s50)) _ hu72) ?_
          rintro _ s72 ⟨rfl, hD⟩
          replace hH := hH.back0T hD
          clear hD
          dsimp only [addC, setC, rmC, selC, getC] at hH
          try dsimp only [putL, setL, evL, getL]
          refine HL_cons rfl ?_
          refine o_not rfl ?_
          try dsimp only [putL, setL, evL, getL]
          refine HL_cons rfl ?_
          refine o_move ?_
          try dsimp only [putL, setL, evL, getL]
          rcases Bool.eq_false_or_eq_true (!u72) with hb73 | hb73
          · replace H := iteT hb73 H
            refine HL_skip ?_ ?_
            · exact wantF (j := 4) (b := false) (t := 63) (c := !u72) rfl rfl rfl rfl hb73
            try dsimp only [putL, setL, evL, getL]
            refine HL_skip ?_ ?_
            · exact wantF (j := 4) (b := false) (t := 63) (c := !u72) rfl rfl rfl rfl hb73
            try dsimp only [putL, setL, evL, getL]
            refine HL_skip ?_ ?_
            · exact wantF (j := 4) (b := false) (t := 63) (c := !u72) rfl rfl rfl rfl hb73
            try dsimp only [putL, setL, evL, getL]
            refine HL_skip ?_ ?_
            · exact wantF (j := 4) (b := false) (t := 63) (c := !u72) rfl rfl rfl rfl hb73
            try dsimp only [putL, setL, evL, getL]
            refine HL_cons rfl ?_
            refine o_pickT rfl hb73 ?_
            try dsimp only [putL, setL, evL, getL]
            refine HL_cons rfl ?_
            refine o_move ?_
            try dsimp only [putL, setL, evL, getL]
            refine HL_skip ?_ ?_
            · exact wantF (j := 10) (b := false) (t := 69) (c := true) rfl rfl rfl rfl rfl
            try dsimp only [putL, setL, evL, getL]
            refine HL_skip ?_ ?_
            · exact wantF (j := 10) (b := false) (t := 69) (c := true) rfl rfl rfl rfl rfl
            try dsimp only [putL, setL, evL, getL]
            refine HL_skip ?_ ?_
            · exact wantF (j := 10) (b := false) (t := 69) (c := true) rfl rfl rfl rfl rfl
            try dsimp only [putL, setL, evL, getL]
            refine HL_cons rfl ?_
            refine o_pickT rfl rfl ?_
            try dsimp only [putL, setL, evL, getL]
            refine HL_nil ?_
            exact hK66 _ _ ⟨true, H, rfl, hH.sel [7, 12, 13, 16, 5, 6, 9, 10, 14, 15, 0, 8, 11, 17] (by decide)⟩
          · replace H := iteF hb73 H
            refine HL_want ?_ ?_
            · exact wantT (j := 4) (b := false) (t := 63) (c := !u72) rfl rfl rfl rfl hb73
            refine o_move ?_
            try dsimp only [putL, setL, evL, getL]
            refine HL_want ?_ ?_
            · exact wantT (j := 4) (b := false) (t := 63) (c := !u72) rfl rfl rfl rfl hb73
            refine o_move ?_
            try dsimp only [putL, setL, evL, getL]
            obtain ⟨u74, hu74, H⟩ := headE H
            refine HL_want ?_ ?_
            · exact wantT (j := 4) (b := false) (t := 63) (c := !u72) rfl rfl rfl rfl hb73
            refine o_call (args := #[.slice A48 u45.2.2.2.2.1.length c48, .slice A29 u26.2.2.2.2.1.length c29]) Try.func18 rfl rfl rfl (laws_eqIntS.ok s72 s72 no A48 c48 u45.2.2.2.2.1 A29 c29 u26.2.2.2.2.1 (hH.rd 16 rfl) (hH.rd 7 rfl) (Hp.own (Bs.refl s72)) _ hu74) ?_
            rintro _ s74 ⟨rfl, hD⟩
            replace hH := hH.back0T hD
            clear hD
            dsimp only [addC, setC, rmC, selC, getC] at hH
            try dsimp only [putL, setL, evL, getL]
            refine HL_want ?_ ?_
            · exact wantT (j := 4) (b := false) (t := 63) (c := !u72) rfl rfl rfl rfl hb73
            refine o_not rfl ?_
            try dsimp only [putL, setL, evL, getL]
            refine HL_cons rfl ?_
            refine o_pickF rfl hb73 ?_
            try dsimp only [putL, setL, evL, getL]
            refine HL_cons rfl ?_
            refine o_move ?_
            try dsimp only [putL, setL, evL, getL]
            rcases Bool.eq_false_or_eq_true (!u74) with hb75 | hb75
            · replace H := iteT hb75 H
              refine HL_skip ?_ ?_
              · exact wantF (j := 10) (b := false) (t := 69) (c := !u74) rfl rfl rfl rfl hb75
              try dsimp only [putL, setL, evL, getL]
              refine HL_skip ?_ ?_
              · exact wantF (j := 10) (b := false) (t := 69) (c := !u74) rfl rfl rfl rfl hb75
              try dsimp only [putL, setL, evL, getL]
              refine HL_skip ?_ ?_
              · exact wantF (j := 10) (b := false) (t := 69) (c := !u74) rfl rfl rfl rfl hb75
              try dsimp only [putL, setL, evL, getL]
              refine HL_cons rfl ?_
              refine o_pickT rfl hb75 ?_
              try dsimp only [putL, setL, evL, getL]
              refine HL_nil ?_
              exact hK66 _ _ ⟨true, H, rfl, hH.sel [7, 12, 13, 16, 5, 6, 9, 10, 14, 15, 0, 8, 11, 17] (by decide)⟩
            · replace H := iteF hb75 H
              refine HL_want ?_ ?_
              · exact wantT (j := 10) (b := false) (t := 69) (c := !u74) rfl rfl rfl rfl hb75
              refine o_move ?_
              try dsimp only [putL, setL, evL, getL]
              refine HL_want ?_ ?_
              · exact wantT (j := 10) (b := false) (t := 69) (c := !u74) rfl rfl rfl rfl hb75
              refine o_move ?_
              try dsimp only [putL, setL, evL, getL]
              refine HL_want ?_ ?_
              · exact wantT (j := 10) (b := false) (t := 69) (c := !u74) rfl rfl rfl rfl hb75
              refine o_neb rfl rfl Try.underlying4 ?_
              try dsimp only [putL, setL, evL, getL]
              refine HL_cons rfl ?_
              refine o_pickF rfl hb75 ?_
              try dsimp only [putL, setL, evL, getL]
              refine HL_nil ?_
              exact hK66 _ _ ⟨u45.2.2.2.2.2 != u26.2.2.2.2.2, H, rfl, hH.sel [7, 12, 13, 16, 5, 6, 9, 10, 14, 15, 0, 8, 11, 17] (by decide)⟩
        · rintro l' s76 ⟨x71, H, hl, hH⟩
          generalize getL l' 59 = j59, getL l' 60 = j60, getL l' 61 = j61, getL l' 62 = j62, getL l' 63 = j63, getL l' 64 = j64, getL l' 65 = j65, getL l' 66 = j66, getL l' 67 = j67, getL l' 68 = j68, getL l' 69 = j69, getL l' 70 = j70, getL l' 71 = j71, getL l' 72 = j72 at hl
          subst hl
          replace H := hG66 _ H
          try dsimp only at H
          rcases Bool.eq_false_or_eq_true x71 with hb77 | hb77
          · replace H := iteT hb77 H
            refine HT_true (congrArg Value.bool hb77) ?_
            refine HT_seq_k ?_
            intro K78 hK78
            refine HT_region ?_
            refine HL_cons rfl ?_
            refine o_assign ?_
            try dsimp only [putL, setL, evL, getL]
            refine HL_nil ?_
            refine hK78 _ _ ?_
            refine HT_ret ?_
            obtain rfl := Option.some.inj (show some _ = some r from H)
            exact hQr _ _ [.bool false] ⟨rfl, trivial⟩ ⟨rfl, hH.sel [] (by decide)⟩
          · replace H := iteF hb77 H
            refine HT_false (congrArg Value.bool hb77) ?_
            refine HT_skip ?_
            refine hK65 _ _ ?_
            refine HT_seq_k ?_
            intro K79 hK79
            refine HT_seq_k ?_
            intro K80 hK80
            refine HK_draw (fun s' => Gro s76 s') 6 hMix ?_
            have hR := Gro.refl s76
            have hH0 := hH
            refine HK_read 0 (v := .agg #[.int .i64 u33.1, .slice A34 u33.2.1.length c34, .slice A35 u33.2.2.1.length c35, .int .i64 u33.2.2.2]) rfl (by kernel_rfl) (fun c l s h => hQp c l s h) rfl (fun s' hR' K hK => ?_) rfl rfl hR ?_
            · refine o_loads' [.int .i64 u33.1, .slice A34 u33.2.1.length c34, .slice A35 u33.2.2.1.length c35, .int .i64 u33.2.2.2] rfl Try.underlying31 rfl tI31 rfl (fun j v hj => has_gro hR' ((hH0.partv 12 rfl (0) [.int .i64 u33.1, .slice A34 u33.2.1.length c34, .slice A35 u33.2.2.1.length c35, .int .i64 u33.2.2.2] rfl) j v hj)) ?_
              exact hK
            try dsimp only [putL, setL, evL, getL]
            refine HK_read 1 (v := .agg #[.int .i64 p0_0, .slice A0_1p p0_1.length c0_1p, .slice A0_2p p0_2.length c0_2p, .int .i64 p0_3]) rfl (by kernel_rfl) (fun c l s h => hQp c l s h) rfl (fun s' hR' K hK => ?_) rfl rfl hR ?_
            · refine o_loads' [.int .i64 p0_0, .slice A0_1p p0_1.length c0_1p, .slice A0_2p p0_2.length c0_2p, .int .i64 p0_3] rfl Try.underlying29 rfl tI29 rfl (fun j v hj => has_gro hR' ((hH0.partv 10 rfl (0) [.int .i64 p0_0, .slice A0_1p p0_1.length c0_1p, .slice A0_2p p0_2.length c0_2p, .int .i64 p0_3] rfl) j v hj)) ?_
              exact hK
            try dsimp only [putL, setL, evL, getL]
            obtain ⟨u81, hu81, H⟩ := headE H
            refine HK_one 2 (by kernel_rfl) rfl (fun _ => hR) rfl ?_
            refine o_call (args := #[.agg #[.int .i64 p0_0, .slice A0_1p p0_1.length c0_1p, .slice A0_2p p0_2.length c0_2p, .int .i64 p0_3]]) Try.func23 rfl rfl rfl (laws_toBuf.ok sb s76 no p0_0 A0_1p c0_1p p0_1 A0_2p c0_2p p0_2 p0_3 HRp0_1 HRp0_2 (Hp.own hH.bs) _ hu81) ?_
            rintro _ s81 ⟨A82, c82, A83, c83, rfl, hD⟩
            replace hR := hR.trans hD.gro
            replace hH := hH.back0 hD (Up.refl _ _ _)
            clear hD
            dsimp only [addC, setC, rmC, selC, getC] at hH
            try dsimp only [putL, setL, evL, getL]
            obtain ⟨u84, hu84, H⟩ := headE H
            refine HK_one 3 (by kernel_rfl) rfl (fun _ => hR) rfl ?_
            refine o_call (args := #[.agg #[.int .i64 u33.1, .slice A34 u33.2.1.length c34, .slice A35 u33.2.2.1.length c35, .int .i64 u33.2.2.2], .agg #[.int .i64 u81.1, .slice A82 u81.2.1.length c82, .slice A83 u81.2.2.1.length c83, .int .i64 u81.2.2.2]]) Try.func25 rfl rfl rfl (laws_eqBuf.ok s81 s81 no u33.1 A34 c34 u33.2.1 A35 c35 u33.2.2.1 u33.2.2.2 u81.1 A82 c82 u81.2.1 A83 c83 u81.2.2.1 u81.2.2.2 (hH.rd 6 rfl) (hH.rd 7 rfl) (hH.rd 14 rfl) (hH.rd 15 rfl) (Hp.own (Bs.refl s81)) _ hu84) ?_
            rintro _ s84 ⟨rfl, hD⟩
            replace hR := hR.trans hD.gro
            replace hH := hH.back0T hD
            clear hD
            dsimp only [addC, setC, rmC, selC, getC] at hH
            try dsimp only [putL, setL, evL, getL]
            refine HK_readP 4 (v := .bool (!u84)) rfl (by kernel_rfl) (fun c l s h => hQp c l s h) rfl (fun s' K hK => ?_) rfl rfl (fun _ => hR) ?_
            · refine o_not rfl ?_
              exact hK
            try dsimp only [putL, setL, evL, getL]
            refine HK_done (fun _ => hR) (by kernel_rfl) ?_
            refine hK80 _ _ ?_
            rcases Bool.eq_false_or_eq_true (!u84) with hb85 | hb85
            · replace H := iteT hb85 H
              refine HT_true (congrArg Value.bool hb85) ?_
              refine HT_seq_k ?_
              intro K86 hK86
              refine HT_region ?_
              refine HL_cons rfl ?_
              refine o_assign ?_
              try dsimp only [putL, setL, evL, getL]
              refine HL_nil ?_
              refine hK86 _ _ ?_
              refine HT_ret ?_
              obtain rfl := Option.some.inj (show some _ = some r from H)
              exact hQr _ _ [.bool false] ⟨rfl, trivial⟩ ⟨rfl, hH.sel [] (by decide)⟩
            · replace H := iteF hb85 H
              refine HT_false (congrArg Value.bool hb85) ?_
              refine HT_skip ?_
              refine hK79 _ _ ?_
              refine HT_seq_k ?_
              intro K87 hK87
              refine HT_seq_k ?_
              intro K88 hK88
              refine HT_region ?_
              refine HL_cons rfl ?_
              refine o_move ?_
              try dsimp only [putL, setL, evL, getL]
              refine HL_cons rfl ?_
              refine o_move ?_
              try dsimp only [putL, setL, evL, getL]
              obtain ⟨u89, hu89, H⟩ := headE H
              refine HL_cons rfl ?_
              refine o_call (args := #[.slice A1p p1.length c1p]) Try.func16 rfl rfl rfl (laws_toIntS.ok sb s84 no A1p c1p p1 HRp1 (Hp.own hH.bs) _ hu89) ?_
              rintro _ s89 ⟨A90, c90, rfl, hD⟩
              replace hH := hH.back0 hD (Up.refl _ _ _)
              clear hD
              dsimp only [addC, setC, rmC, selC, getC] at hH
              try dsimp only [putL, setL, evL, getL]
              obtain ⟨u91, hu91, H⟩ := headE H
              refine HL_cons rfl ?_
              refine o_call (args := #[.slice A40 u39.length c40, .slice A90 u89.length c90]) Try.func18 rfl rfl rfl (laws_eqIntS.ok s89 s89 no A40 c40 u39 A90 c90 u89 (hH.rd 1 rfl) (hH.rd 16 rfl) (Hp.own (Bs.refl s89)) _ hu91) ?_
              rintro _ s91 ⟨rfl, hD⟩
              replace hH := hH.back0T hD
              clear hD
              dsimp only [addC, setC, rmC, selC, getC] at hH
              try dsimp only [putL, setL, evL, getL]
              refine HL_cons rfl ?_
              refine o_not rfl ?_
              try dsimp only [putL, setL, evL, getL]
              refine HL_nil ?_
              refine hK88 _ _ ?_
              rcases Bool.eq_false_or_eq_true (!u91) with hb92 | hb92
              · replace H := iteT hb92 H
                refine HT_true (congrArg Value.bool hb92) ?_
                refine HT_seq_k ?_
                intro K93 hK93
                refine HT_region ?_
                refine HL_cons rfl ?_
                refine o_assign ?_
                try dsimp only [putL, setL, evL, getL]
                refine HL_nil ?_
                refine hK93 _ _ ?_
                refine HT_ret ?_
                obtain rfl := Option.some.inj (show some _ = some r from H)
                exact hQr _ _ [.bool false] ⟨rfl, trivial⟩ ⟨rfl, hH.sel [] (by decide)⟩
              · replace H := iteF hb92 H
                refine HT_false (congrArg Value.bool hb92) ?_
                refine HT_skip ?_
                refine hK87 _ _ ?_
                refine HT_seq_k ?_
                intro K94 hK94
                refine HT_seq_k ?_
                intro K95 hK95
                refine HT_region ?_
                refine HL_cons rfl ?_
                refine o_move ?_
                try dsimp only [putL, setL, evL, getL]
                refine HL_cons rfl ?_
                refine o_move ?_
                try dsimp only [putL, setL, evL, getL]
                obtain ⟨u96, hu96, H⟩ := headE H
                refine HL_cons rfl ?_
                refine o_call (args := #[.slice A2p p2.length c2p]) Try.func16 rfl rfl rfl (laws_toIntS.ok sb s91 no A2p c2p p2 HRp2 (Hp.own hH.bs) _ hu96) ?_
                rintro _ s96 ⟨A97, c97, rfl, hD⟩
                replace hH := hH.back0 hD (Up.refl _ _ _)
                clear hD
                dsimp only [addC, setC, rmC, selC, getC] at hH
                try dsimp only [putL, setL, evL, getL]
                obtain ⟨u98, hu98, H⟩ := headE H
                refine HL_cons rfl ?_
                refine o_call (args := #[.slice A43 u42.length c43, .slice A97 u96.length c97]) Try.func18 rfl rfl rfl (laws_eqIntS.ok s96 s96 no A43 c43 u42 A97 c97 u96 (hH.rd 2 rfl) (hH.rd 17 rfl) (Hp.own (Bs.refl s96)) _ hu98) ?_
                rintro _ s98 ⟨rfl, hD⟩
                replace hH := hH.back0T hD
                clear hD
                dsimp only [addC, setC, rmC, selC, getC] at hH
                try dsimp only [putL, setL, evL, getL]
                refine HL_cons rfl ?_
                refine o_not rfl ?_
                try dsimp only [putL, setL, evL, getL]
                refine HL_nil ?_
                refine hK95 _ _ ?_
                rcases Bool.eq_false_or_eq_true (!u98) with hb99 | hb99
                · replace H := iteT hb99 H
                  refine HT_true (congrArg Value.bool hb99) ?_
                  refine HT_seq_k ?_
                  intro K100 hK100
                  refine HT_region ?_
                  refine HL_cons rfl ?_
                  refine o_assign ?_
                  try dsimp only [putL, setL, evL, getL]
                  refine HL_nil ?_
                  refine hK100 _ _ ?_
                  refine HT_ret ?_
                  obtain rfl := Option.some.inj (show some _ = some r from H)
                  exact hQr _ _ [.bool false] ⟨rfl, trivial⟩ ⟨rfl, hH.sel [] (by decide)⟩
                · replace H := iteF hb99 H
                  refine HT_false (congrArg Value.bool hb99) ?_
                  refine HT_skip ?_
                  refine hK94 _ _ ?_
                  refine HT_seq_k ?_
                  intro K101 hK101
                  refine HT_region ?_
                  refine HL_cons rfl ?_
                  refine o_assign ?_
                  try dsimp only [putL, setL, evL, getL]
                  refine HL_nil ?_
                  refine hK101 _ _ ?_
                  refine HT_seq_k ?_
                  intro K102 hK102
                  refine HT_region ?_
                  refine HL_cons rfl ?_
                  refine o_loads' [.int .i64 u33.1, .slice A34 u33.2.1.length c34, .slice A35 u33.2.2.1.length c35, .int .i64 u33.2.2.2] rfl Try.underlying31 rfl tI31 rfl (hH.partv 12 rfl (0) [.int .i64 u33.1, .slice A34 u33.2.1.length c34, .slice A35 u33.2.2.1.length c35, .int .i64 u33.2.2.2] rfl) ?_
                  try dsimp only [putL, setL, evL, getL]
                  refine HL_cons rfl ?_
                  refine o_move ?_
                  try dsimp only [putL, setL, evL, getL]
                  obtain ⟨u103, hu103, H⟩ := headE H
                  obtain ⟨F1, hA, hB⟩ := hH.take [6, 7] (by decide)
                  dsimp only [addC, setC, rmC, selC, getC] at hA
                  refine HL_cons rfl ?_
                  refine o_call (args := #[.agg #[.int .i64 u33.1, .slice A34 u33.2.1.length c34, .slice A35 u33.2.2.1.length c35, .int .i64 u33.2.2.2], .int .i64 1]) Try.func26 rfl rfl rfl (laws_markBuf.ok sb s98 F1 u33.1 A34 c34 u33.2.1 A35 c35 u33.2.2.1 u33.2.2.2 1 hA _ hu103) ?_
                  rintro _ s103 ⟨rfl, hD, hl104, hl105⟩
                  replace hH := hB _ _ _ (Up.refl _ _ _) hD
                  clear hD hA hB
                  dsimp only [addC, setC, rmC, selC, getC] at hH
                  try dsimp only [putL, setL, evL, getL]
                  refine HL_cons rfl ?_
                  refine o_assign ?_
                  try dsimp only [putL, setL, evL, getL]
                  refine HL_nil ?_
                  refine hK102 _ _ ?_
                  refine HT_seq_k ?_
                  intro K106 hK106
                  refine HT_region ?_
                  refine HL_cons rfl ?_
                  refine o_move ?_
                  try dsimp only [putL, setL, evL, getL]
                  refine HL_cons rfl ?_
                  refine o_move ?_
                  try dsimp only [putL, setL, evL, getL]
                  obtain ⟨u107, hu107, H⟩ := headE H
                  obtain ⟨F1, hA, hB⟩ := hH.take [1] (by decide)
                  dsimp only [addC, setC, rmC, selC, getC] at hA
                  refine HL_cons rfl ?_
                  refine o_call (args := #[.slice A40 u39.length c40, .int .i64 u103.1]) Try.func19 rfl rfl rfl (laws_markIntS.ok sb s103 F1 A40 c40 u39 u103.1 hA _ hu107) ?_
                  rintro _ s107 ⟨rfl, hD, hl108⟩
                  replace hH := hB _ _ _ (Up.refl _ _ _) hD
                  clear hD hA hB
                  dsimp only [addC, setC, rmC, selC, getC] at hH
                  try dsimp only [putL, setL, evL, getL]
                  refine HL_cons rfl ?_
                  refine o_assign ?_
                  try dsimp only [putL, setL, evL, getL]
                  refine HL_nil ?_
                  refine hK106 _ _ ?_
                  refine HT_seq_k ?_
                  intro K109 hK109
                  refine HT_region ?_
                  refine HL_cons rfl ?_
                  refine o_move ?_
                  try dsimp only [putL, setL, evL, getL]
                  refine HL_cons rfl ?_
                  refine o_move ?_
                  try dsimp only [putL, setL, evL, getL]
                  obtain ⟨u110, hu110, H⟩ := headE H
                  obtain ⟨F1, hA, hB⟩ := hH.take [2] (by decide)
                  dsimp only [addC, setC, rmC, selC, getC] at hA
                  refine HL_cons rfl ?_
                  refine o_call (args := #[.slice A43 u42.length c43, .int .i64 u107.1]) Try.func19 rfl rfl rfl (laws_markIntS.ok sb s107 F1 A43 c43 u42 u107.1 hA _ hu110) ?_
                  rintro _ s110 ⟨rfl, hD, hl111⟩
                  replace hH := hB _ _ _ (Up.refl _ _ _) hD
                  clear hD hA hB
                  dsimp only [addC, setC, rmC, selC, getC] at hH
                  try dsimp only [putL, setL, evL, getL]
                  refine HL_cons rfl ?_
                  refine o_assign ?_
                  try dsimp only [putL, setL, evL, getL]
                  refine HL_nil ?_
                  refine hK109 _ _ ?_
                  refine HT_seq_k ?_
                  intro K128 hK128
                  refine joinH H fun G129 hG129 H => ?_
                  refine HT_joinK (fun l' s' => ∃ (x135 : Bool), G129 x135 = some r ∧ l' = [.agg #[.int .i64 p0_0, .slice A0_1p p0_1.length c0_1p, .slice A0_2p p0_2.length c0_2p, .int .i64 p0_3], .slice A1p p1.length c1p, .slice A2p p2.length c2p, .pointer (some ⟨b2, 0, none⟩), undef, undef, .bool false, .int .i64 u13, .pointer (some ⟨b30, 0, none⟩), .slice A29 u26.2.2.2.2.1.length c29, .bool u26.2.2.2.2.2, .pointer (some ⟨b36, 0, none⟩), .slice A40 u39.length c40, .slice A43 u42.length c43, .pointer (some ⟨b49, 0, none⟩), .slice A48 u45.2.2.2.2.1.length c48, .bool u45.2.2.2.2.2, .int .i64 u110.1, undef, undef, undef, undef, undef, .slice A1p p1.length c1p, .int .i64 (p1.length : Int), .bool (decide ((p1.length : Int) > 1048576)), .slice A2p p2.length c2p, .int .i64 (p2.length : Int), .bool (decide ((p2.length : Int) > 1048576)), .agg #[.int .i64 p0_0, .slice A0_1p p0_1.length c0_1p, .slice A0_2p p0_2.length c0_2p, .int .i64 p0_3], .int .i64 1048576, .int .i64 u13, .int .i64 u13, .bool (decide (u13 < 0)), .tuple #[.agg #[.int .i64 u26.1, .slice A27 u26.2.1.length c27, .slice A28 u26.2.2.1.length c28, .int .i64 u26.2.2.2.1], .slice A29 u26.2.2.2.2.1.length c29, .bool u26.2.2.2.2.2], .agg #[.int .i64 p0_0, .slice A0_1p p0_1.length c0_1p, .slice A0_2p p0_2.length c0_2p, .int .i64 p0_3], .agg #[.int .i64 u19.1, .slice A20 u19.2.1.length c20, .slice A21 u19.2.2.1.length c21, .int .i64 u19.2.2.2], .slice A1p p1.length c1p, .slice A23 u22.length c23, .slice A2p p2.length c2p, .slice A25 u24.length c25, .tuple #[.agg #[.int .i64 u26.1, .slice A27 u26.2.1.length c27, .slice A28 u26.2.2.1.length c28, .int .i64 u26.2.2.2.1], .slice A29 u26.2.2.2.2.1.length c29, .bool u26.2.2.2.2.2], .agg #[.int .i64 u26.1, .slice A27 u26.2.1.length c27, .slice A28 u26.2.2.1.length c28, .int .i64 u26.2.2.2.1], .slice A29 u26.2.2.2.2.1.length c29, .bool u26.2.2.2.2.2, .agg #[.int .i64 p0_0, .slice A0_1p p0_1.length c0_1p, .slice A0_2p p0_2.length c0_2p, .int .i64 p0_3], .agg #[.int .i64 u33.1, .slice A34 u33.2.1.length c34, .slice A35 u33.2.2.1.length c35, .int .i64 u33.2.2.2], .slice A1p p1.length c1p, .slice A40 u39.length c40, .slice A2p p2.length c2p, .slice A43 u42.length c43, .tuple #[.agg #[.int .i64 u45.1, .slice A46 u45.2.1.length c46, .slice A47 u45.2.2.1.length c47, .int .i64 u45.2.2.2.1], .slice A48 u45.2.2.2.2.1.length c48, .bool u45.2.2.2.2.2], .agg #[.int .i64 u33.1, .slice A34 u33.2.1.length c34, .slice A35 u33.2.2.1.length c35, .int .i64 u33.2.2.2], .slice A40 u39.length c40, .slice A43 u42.length c43, .tuple #[.agg #[.int .i64 u45.1, .slice A46 u45.2.1.length c46, .slice A47 u45.2.2.1.length c47, .int .i64 u45.2.2.2.1], .slice A48 u45.2.2.2.2.1.length c48, .bool u45.2.2.2.2.2], .agg #[.int .i64 u45.1, .slice A46 u45.2.1.length c46, .slice A47 u45.2.2.1.length c47, .int .i64 u45.2.2.2.1], .slice A48 u45.2.2.2.2.1.length c48, .bool u45.2.2.2.2.2, j59, j60, j61, j62, j63, j64, j65, j66, j67, j68, j69, j70, j71, j72, .bool x71, .agg #[.int .i64 u33.1, .slice A34 u33.2.1.length c34, .slice A35 u33.2.2.1.length c35, .int .i64 u33.2.2.2], .agg #[.int .i64 p0_0, .slice A0_1p p0_1.length c0_1p, .slice A0_2p p0_2.length c0_2p, .int .i64 p0_3], .agg #[.int .i64 u81.1, .slice A82 u81.2.1.length c82, .slice A83 u81.2.2.1.length c83, .int .i64 u81.2.2.2], .bool u84, .bool (!u84), .slice A40 u39.length c40, .slice A1p p1.length c1p, .slice A90 u89.length c90, .bool u91, .bool (!u91), .slice A43 u42.length c43, .slice A2p p2.length c2p, .slice A97 u96.length c97, .bool u98, .bool (!u98), .agg #[.int .i64 u33.1, .slice A34 u33.2.1.length c34, .slice A35 u33.2.2.1.length c35, .int .i64 u33.2.2.2], .int .i64 1, .int .i64 u103.1, .slice A40 u39.length c40, .int .i64 u103.1, .int .i64 u107.1, .slice A43 u42.length c43, .int .i64 u107.1, .int .i64 u110.1, getL l' 98, getL l' 99, getL l' 100, getL l' 101, getL l' 102, getL l' 103, getL l' 104, getL l' 105, getL l' 106, getL l' 107, getL l' 108, getL l' 109, getL l' 110, getL l' 111, getL l' 112, getL l' 113, getL l' 114, getL l' 115, .bool x135, undef, undef, undef, undef, undef, undef, undef, undef, undef, undef, undef, undef, undef, undef, undef, undef, undef, undef, undef, undef, undef, undef, undef, undef, undef, undef, undef, undef, undef, undef, undef, undef, undef, undef, undef, undef, undef, undef, undef, undef, undef, undef, undef, undef, undef, undef, undef, undef, undef, undef, undef, undef, undef, undef, undef, undef, undef, undef] ∧ Hp sb s F0 s' [Ck.ol OI 3 A29 c29 u26.2.2.2.2.1, Ck.ol OI 3 A48 c48 u45.2.2.2.2.1, Ck.ol OI 3 A27 c27 u26.2.1, Ck.ol OI 3 A28 c28 u26.2.2.1, Ck.ol OI 3 A46 c46 u45.2.1, Ck.ol OI 3 A47 c47 u45.2.2.1, Ck.ov b2 [.int .i64 p0_0, .slice A0_1p p0_1.length c0_1p, .slice A0_2p p0_2.length c0_2p, .int .i64 p0_3] 29, Ck.ov b30 [.int .i64 u26.1, .slice A27 u26.2.1.length c27, .slice A28 u26.2.2.1.length c28, .int .i64 u26.2.2.2.1] 31, Ck.ov b49 [.int .i64 u45.1, .slice A46 u45.2.1.length c46, .slice A47 u45.2.2.1.length c47, .int .i64 u45.2.2.2.1] 31]) ?_ ?_
                  · intro K129 hK129
                    refine HT_region ?_
                    refine HL_cons rfl ?_
                    refine o_move ?_
                    try dsimp only [putL, setL, evL, getL]
                    refine HL_cons rfl ?_
                    refine o_bin rfl rfl rfl ?_
                    try dsimp only [putL, setL, evL, getL]
                    refine HL_cons rfl ?_
                    refine o_move ?_
                    try dsimp only [putL, setL, evL, getL]
                    rcases Bool.eq_false_or_eq_true (decide (u110.1 < 0)) with hb136 | hb136
                    · replace H := iteT hb136 H
                      refine HL_skip ?_ ?_
                      · exact wantF (j := 2) (b := false) (t := 100) (c := decide (u110.1 < 0)) rfl rfl rfl rfl hb136
                      try dsimp only [putL, setL, evL, getL]
                      refine HL_skip ?_ ?_
                      · exact wantF (j := 2) (b := false) (t := 100) (c := decide (u110.1 < 0)) rfl rfl rfl rfl hb136
                      try dsimp only [putL, setL, evL, getL]
                      refine HL_skip ?_ ?_
                      · exact wantF (j := 2) (b := false) (t := 100) (c := decide (u110.1 < 0)) rfl rfl rfl rfl hb136
                      try dsimp only [putL, setL, evL, getL]
                      refine HL_skip ?_ ?_
                      · exact wantF (j := 2) (b := false) (t := 100) (c := decide (u110.1 < 0)) rfl rfl rfl rfl hb136
                      try dsimp only [putL, setL, evL, getL]
                      refine HL_cons rfl ?_
                      refine o_pickT rfl hb136 ?_
                      try dsimp only [putL, setL, evL, getL]
                      refine HL_cons rfl ?_
                      refine o_move ?_
                      try dsimp only [putL, setL, evL, getL]
                      refine HL_skip ?_ ?_
                      · exact wantF (j := 8) (b := false) (t := 106) (c := true) rfl rfl rfl rfl rfl
                      try dsimp only [putL, setL, evL, getL]
                      refine HL_skip ?_ ?_
                      · exact wantF (j := 8) (b := false) (t := 106) (c := true) rfl rfl rfl rfl rfl
                      try dsimp only [putL, setL, evL, getL]
                      refine HL_skip ?_ ?_
                      · exact wantF (j := 8) (b := false) (t := 106) (c := true) rfl rfl rfl rfl rfl
                      try dsimp only [putL, setL, evL, getL]
                      refine HL_skip ?_ ?_
                      · exact wantF (j := 8) (b := false) (t := 106) (c := true) rfl rfl rfl rfl rfl
                      try dsimp only [putL, setL, evL, getL]
                      refine HL_cons rfl ?_
                      refine o_pickT rfl rfl ?_
                      try dsimp only [putL, setL, evL, getL]
                      refine HL_cons rfl ?_
                      refine o_move ?_
                      try dsimp only [putL, setL, evL, getL]
                      refine HL_skip ?_ ?_
                      · exact wantF (j := 14) (b := false) (t := 112) (c := true) rfl rfl rfl rfl rfl
                      try dsimp only [putL, setL, evL, getL]
                      refine HL_skip ?_ ?_
                      · exact wantF (j := 14) (b := false) (t := 112) (c := true) rfl rfl rfl rfl rfl
                      try dsimp only [putL, setL, evL, getL]
                      refine HL_skip ?_ ?_
                      · exact wantF (j := 14) (b := false) (t := 112) (c := true) rfl rfl rfl rfl rfl
                      try dsimp only [putL, setL, evL, getL]
                      refine HL_cons rfl ?_
                      refine o_pickT rfl rfl ?_
                      try dsimp only [putL, setL, evL, getL]
                      refine HL_nil ?_
                      exact hK129 _ _ ⟨true, H, rfl, (by first | exact hH.sel [0, 3, 4, 5, 8, 9, 10, 11, 13] (by decide) | (rw [hl104, hl105]; exact hH.sel [0, 3, 4, 5, 8, 9, 10, 11, 13] (by decide)))⟩
                    · replace H := iteF hb136 H
                      refine HL_want ?_ ?_
                      · exact wantT (j := 2) (b := false) (t := 100) (c := decide (u110.1 < 0)) rfl rfl rfl rfl hb136
                      refine o_loads' [.int .i64 u45.1, .slice A46 u45.2.1.length c46, .slice A47 u45.2.2.1.length c47, .int .i64 u45.2.2.2.1] rfl Try.underlying31 rfl tI31 rfl (hH.partv 13 rfl (0) [.int .i64 u45.1, .slice A46 u45.2.1.length c46, .slice A47 u45.2.2.1.length c47, .int .i64 u45.2.2.2.1] rfl) ?_
                      try dsimp only [putL, setL, evL, getL]
                      refine HL_want ?_ ?_
                      · exact wantT (j := 2) (b := false) (t := 100) (c := decide (u110.1 < 0)) rfl rfl rfl rfl hb136
                      refine o_loads' [.int .i64 u26.1, .slice A27 u26.2.1.length c27, .slice A28 u26.2.2.1.length c28, .int .i64 u26.2.2.2.1] rfl Try.underlying31 rfl tI31 rfl (hH.partv 11 rfl (0) [.int .i64 u26.1, .slice A27 u26.2.1.length c27, .slice A28 u26.2.2.1.length c28, .int .i64 u26.2.2.2.1] rfl) ?_
                      try dsimp only [putL, setL, evL, getL]
                      obtain ⟨u137, hu137, H⟩ := headE H
                      refine HL_want ?_ ?_
                      · exact wantT (j := 2) (b := false) (t := 100) (c := decide (u110.1 < 0)) rfl rfl rfl rfl hb136
                      refine o_call (args := #[.agg #[.int .i64 u45.1, .slice A46 u45.2.1.length c46, .slice A47 u45.2.2.1.length c47, .int .i64 u45.2.2.2.1], .agg #[.int .i64 u26.1, .slice A27 u26.2.1.length c27, .slice A28 u26.2.2.1.length c28, .int .i64 u26.2.2.2.1]]) Try.func25 rfl rfl rfl (laws_eqBuf.ok s110 s110 no u45.1 A46 c46 u45.2.1 A47 c47 u45.2.2.1 u45.2.2.2.1 u26.1 A27 c27 u26.2.1 A28 c28 u26.2.2.1 u26.2.2.2.1 (hH.rd 8 rfl) (hH.rd 9 rfl) (hH.rd 4 rfl) (hH.rd 5 rfl) (Hp.own (Bs.refl s110)) _ hu137) ?_
                      rintro _ s137 ⟨rfl, hD⟩
                      replace hH := hH.back0T hD
                      clear hD
                      dsimp only [addC, setC, rmC, selC, getC] at hH
                      try dsimp only [putL, setL, evL, getL]
                      refine HL_want ?_ ?_
                      · exact wantT (j := 2) (b := false) (t := 100) (c := decide (u110.1 < 0)) rfl rfl rfl rfl hb136
                      refine o_not rfl ?_
                      try dsimp only [putL, setL, evL, getL]
                      refine HL_cons rfl ?_
                      refine o_pickF rfl hb136 ?_
                      try dsimp only [putL, setL, evL, getL]
                      refine HL_cons rfl ?_
                      refine o_move ?_
                      try dsimp only [putL, setL, evL, getL]
                      rcases Bool.eq_false_or_eq_true (!u137) with hb138 | hb138
                      · replace H := iteT hb138 H
                        refine HL_skip ?_ ?_
                        · exact wantF (j := 8) (b := false) (t := 106) (c := !u137) rfl rfl rfl rfl hb138
                        try dsimp only [putL, setL, evL, getL]
                        refine HL_skip ?_ ?_
                        · exact wantF (j := 8) (b := false) (t := 106) (c := !u137) rfl rfl rfl rfl hb138
                        try dsimp only [putL, setL, evL, getL]
                        refine HL_skip ?_ ?_
                        · exact wantF (j := 8) (b := false) (t := 106) (c := !u137) rfl rfl rfl rfl hb138
                        try dsimp only [putL, setL, evL, getL]
                        refine HL_skip ?_ ?_
                        · exact wantF (j := 8) (b := false) (t := 106) (c := !u137) rfl rfl rfl rfl hb138
                        try dsimp only [putL, setL, evL, getL]
                        refine HL_cons rfl ?_
                        refine o_pickT rfl hb138 ?_
                        try dsimp only [putL, setL, evL, getL]
                        refine HL_cons rfl ?_
                        refine o_move ?_
                        try dsimp only [putL, setL, evL, getL]
                        refine HL_skip ?_ ?_
                        · exact wantF (j := 14) (b := false) (t := 112) (c := true) rfl rfl rfl rfl rfl
                        try dsimp only [putL, setL, evL, getL]
                        refine HL_skip ?_ ?_
                        · exact wantF (j := 14) (b := false) (t := 112) (c := true) rfl rfl rfl rfl rfl
                        try dsimp only [putL, setL, evL, getL]
                        refine HL_skip ?_ ?_
                        · exact wantF (j := 14) (b := false) (t := 112) (c := true) rfl rfl rfl rfl rfl
                        try dsimp only [putL, setL, evL, getL]
                        refine HL_cons rfl ?_
                        refine o_pickT rfl rfl ?_
                        try dsimp only [putL, setL, evL, getL]
                        refine HL_nil ?_
                        exact hK129 _ _ ⟨true, H, rfl, (by first | exact hH.sel [0, 3, 4, 5, 8, 9, 10, 11, 13] (by decide) | (rw [hl104, hl105]; exact hH.sel [0, 3, 4, 5, 8, 9, 10, 11, 13] (by decide)))⟩
                      · replace H := iteF hb138 H
                        refine HL_want ?_ ?_
                        · exact wantT (j := 8) (b := false) (t := 106) (c := !u137) rfl rfl rfl rfl hb138
                        refine o_move ?_
                        try dsimp only [putL, setL, evL, getL]
                        refine HL_want ?_ ?_
                        · exact wantT (j := 8) (b := false) (t := 106) (c := !u137) rfl rfl rfl rfl hb138
                        refine o_move ?_
                        try dsimp only [putL, setL, evL, getL]
                        obtain ⟨u139, hu139, H⟩ := headE H
                        refine HL_want ?_ ?_
                        · exact wantT (j := 8) (b := false) (t := 106) (c := !u137) rfl rfl rfl rfl hb138
                        refine o_call (args := #[.slice A48 u45.2.2.2.2.1.length c48, .slice A29 u26.2.2.2.2.1.length c29]) Try.func18 rfl rfl rfl (laws_eqIntS.ok s137 s137 no A48 c48 u45.2.2.2.2.1 A29 c29 u26.2.2.2.2.1 (hH.rd 3 rfl) (hH.rd 0 rfl) (Hp.own (Bs.refl s137)) _ hu139) ?_
                        rintro _ s139 ⟨rfl, hD⟩
                        replace hH := hH.back0T hD
                        clear hD
                        dsimp only [addC, setC, rmC, selC, getC] at hH
                        try dsimp only [putL, setL, evL, getL]
                        refine HL_want ?_ ?_
                        · exact wantT (j := 8) (b := false) (t := 106) (c := !u137) rfl rfl rfl rfl hb138
                        refine o_not rfl ?_
                        try dsimp only [putL, setL, evL, getL]
                        refine HL_cons rfl ?_
                        refine o_pickF rfl hb138 ?_
                        try dsimp only [putL, setL, evL, getL]
                        refine HL_cons rfl ?_
                        refine o_move ?_
                        try dsimp only [putL, setL, evL, getL]
                        rcases Bool.eq_false_or_eq_true (!u139) with hb140 | hb140
                        · replace H := iteT hb140 H
                          refine HL_skip ?_ ?_
                          · exact wantF (j := 14) (b := false) (t := 112) (c := !u139) rfl rfl rfl rfl hb140
                          try dsimp only [putL, setL, evL, getL]
                          refine HL_skip ?_ ?_
                          · exact wantF (j := 14) (b := false) (t := 112) (c := !u139) rfl rfl rfl rfl hb140
                          try dsimp only [putL, setL, evL, getL]
                          refine HL_skip ?_ ?_
                          · exact wantF (j := 14) (b := false) (t := 112) (c := !u139) rfl rfl rfl rfl hb140
                          try dsimp only [putL, setL, evL, getL]
                          refine HL_cons rfl ?_
                          refine o_pickT rfl hb140 ?_
                          try dsimp only [putL, setL, evL, getL]
                          refine HL_nil ?_
                          exact hK129 _ _ ⟨true, H, rfl, (by first | exact hH.sel [0, 3, 4, 5, 8, 9, 10, 11, 13] (by decide) | (rw [hl104, hl105]; exact hH.sel [0, 3, 4, 5, 8, 9, 10, 11, 13] (by decide)))⟩
                        · replace H := iteF hb140 H
                          refine HL_want ?_ ?_
                          · exact wantT (j := 14) (b := false) (t := 112) (c := !u139) rfl rfl rfl rfl hb140
                          refine o_move ?_
                          try dsimp only [putL, setL, evL, getL]
                          refine HL_want ?_ ?_
                          · exact wantT (j := 14) (b := false) (t := 112) (c := !u139) rfl rfl rfl rfl hb140
                          refine o_move ?_
                          try dsimp only [putL, setL, evL, getL]
                          refine HL_want ?_ ?_
                          · exact wantT (j := 14) (b := false) (t := 112) (c := !u139) rfl rfl rfl rfl hb140
                          refine o_neb rfl rfl Try.underlying4 ?_
                          try dsimp only [putL, setL, evL, getL]
                          refine HL_cons rfl ?_
                          refine o_pickF rfl hb140 ?_
                          try dsimp only [putL, setL, evL, getL]
                          refine HL_nil ?_
                          exact hK129 _ _ ⟨u45.2.2.2.2.2 != u26.2.2.2.2.2, H, rfl, (by first | exact hH.sel [0, 3, 4, 5, 8, 9, 10, 11, 13] (by decide) | (rw [hl104, hl105]; exact hH.sel [0, 3, 4, 5, 8, 9, 10, 11, 13] (by decide)))⟩
                  · rintro l' s141 ⟨x135, H, hl, hH⟩
                    generalize getL l' 98 = j98, getL l' 99 = j99, getL l' 100 = j100, getL l' 101 = j101, getL l' 102 = j102, getL l' 103 = j103, getL l' 104 = j104, getL l' 105 = j105, getL l' 106 = j106, getL l' 107 = j107, getL l' 108 = j108, getL l' 109 = j109, getL l' 110 = j110, getL l' 111 = j111, getL l' 112 = j112, getL l' 113 = j113, getL l' 114 = j114, getL l' 115 = j115 at hl
                    subst hl
                    replace H := hG129 _ H
                    try dsimp only at H
                    rcases Bool.eq_false_or_eq_true x135 with hb142 | hb142
                    · replace H := iteT hb142 H
                      refine HT_true (congrArg Value.bool hb142) ?_
                      refine HT_seq_k ?_
                      intro K143 hK143
                      refine HT_region ?_
                      refine HL_cons rfl ?_
                      refine o_assign ?_
                      try dsimp only [putL, setL, evL, getL]
                      refine HL_nil ?_
                      refine hK143 _ _ ?_
                      refine HT_ret ?_
                      obtain rfl := Option.some.inj (show some _ = some r from H)
                      exact hQr _ _ [.bool false] ⟨rfl, trivial⟩ ⟨rfl, hH.sel [] (by decide)⟩
                    · replace H := iteF hb142 H
                      refine HT_false (congrArg Value.bool hb142) ?_
                      refine HT_skip ?_
                      refine hK128 _ _ ?_
                      refine HT_seq_k ?_
                      intro K144 hK144
                      refine HT_region ?_
                      refine HL_cons rfl ?_
                      refine o_assign ?_
                      try dsimp only [putL, setL, evL, getL]
                      refine HL_nil ?_
                      refine hK144 _ _ ?_
                      refine HT_seq_k ?_
                      intro K145 hK145
                      refine HT_region ?_
                      refine HL_cons rfl ?_
                      refine o_loads' [.int .i64 u45.1, .slice A46 u45.2.1.length c46, .slice A47 u45.2.2.1.length c47, .int .i64 u45.2.2.2.1] rfl Try.underlying31 rfl tI31 rfl (hH.partv 8 rfl (0) [.int .i64 u45.1, .slice A46 u45.2.1.length c46, .slice A47 u45.2.2.1.length c47, .int .i64 u45.2.2.2.1] rfl) ?_
                      try dsimp only [putL, setL, evL, getL]
                      refine HL_cons rfl ?_
                      refine o_move ?_
                      try dsimp only [putL, setL, evL, getL]
                      obtain ⟨u146, hu146, H⟩ := headE H
                      obtain ⟨F1, hA, hB⟩ := hH.take [4, 5] (by decide)
                      dsimp only [addC, setC, rmC, selC, getC] at hA
                      refine HL_cons rfl ?_
                      refine o_call (args := #[.agg #[.int .i64 u45.1, .slice A46 u45.2.1.length c46, .slice A47 u45.2.2.1.length c47, .int .i64 u45.2.2.2.1], .int .i64 1]) Try.func26 rfl rfl rfl (laws_markBuf.ok sb s141 F1 u45.1 A46 c46 u45.2.1 A47 c47 u45.2.2.1 u45.2.2.2.1 1 hA _ hu146) ?_
                      rintro _ s146 ⟨rfl, hD, hl147, hl148⟩
                      replace hH := hB _ _ _ (Up.refl _ _ _) hD
                      clear hD hA hB
                      dsimp only [addC, setC, rmC, selC, getC] at hH
                      try dsimp only [putL, setL, evL, getL]
                      refine HL_cons rfl ?_
                      refine o_assign ?_
                      try dsimp only [putL, setL, evL, getL]
                      refine HL_nil ?_
                      refine hK145 _ _ ?_
                      refine HT_seq_k ?_
                      intro K149 hK149
                      refine HT_region ?_
                      refine HL_cons rfl ?_
                      refine o_move ?_
                      try dsimp only [putL, setL, evL, getL]
                      refine HL_cons rfl ?_
                      refine o_move ?_
                      try dsimp only [putL, setL, evL, getL]
                      obtain ⟨u150, hu150, H⟩ := headE H
                      obtain ⟨F1, hA, hB⟩ := hH.take [1] (by decide)
                      dsimp only [addC, setC, rmC, selC, getC] at hA
                      refine HL_cons rfl ?_
                      refine o_call (args := #[.slice A48 u45.2.2.2.2.1.length c48, .int .i64 u146.1]) Try.func19 rfl rfl rfl (laws_markIntS.ok sb s146 F1 A48 c48 u45.2.2.2.2.1 u146.1 hA _ hu150) ?_
                      rintro _ s150 ⟨rfl, hD, hl151⟩
                      replace hH := hB _ _ _ (Up.refl _ _ _) hD
                      clear hD hA hB
                      dsimp only [addC, setC, rmC, selC, getC] at hH
                      try dsimp only [putL, setL, evL, getL]
                      refine HL_cons rfl ?_
                      refine o_assign ?_
                      try dsimp only [putL, setL, evL, getL]
                      refine HL_nil ?_
                      refine hK149 _ _ ?_
                      refine HT_seq_k ?_
                      intro K152 hK152
                      refine HT_region ?_
                      refine HL_cons rfl ?_
                      refine o_assign ?_
                      try dsimp only [putL, setL, evL, getL]
                      refine HL_nil ?_
                      refine hK152 _ _ ?_
                      refine HT_seq_k ?_
                      intro K153 hK153
                      refine HT_region ?_
                      refine HL_cons rfl ?_
                      refine o_loads' [.int .i64 u45.1, .slice A46 u45.2.1.length c46, .slice A47 u45.2.2.1.length c47, .int .i64 u45.2.2.2.1] rfl Try.underlying31 rfl tI31 rfl (hH.partv 8 rfl (0) [.int .i64 u45.1, .slice A46 u45.2.1.length c46, .slice A47 u45.2.2.1.length c47, .int .i64 u45.2.2.2.1] rfl) ?_
                      try dsimp only [putL, setL, evL, getL]
                      refine HL_cons rfl ?_
                      refine o_move ?_
                      try dsimp only [putL, setL, evL, getL]
                      obtain ⟨u154, hu154, H⟩ := headE H
                      refine HL_cons rfl ?_
                      refine o_call (args := #[.agg #[.int .i64 u45.1, .slice A46 u146.2.1.length c46, .slice A47 u146.2.2.length c47, .int .i64 u45.2.2.2.1], .int .i64 1]) Try.func27 rfl rfl (by show ([.agg #[.int .i64 u45.1, .slice A46 u45.2.1.length c46, .slice A47 u45.2.2.1.length c47, .int .i64 u45.2.2.2.1], .int .i64 1] : List Value) = [.agg #[.int .i64 u45.1, .slice A46 u146.2.1.length c46, .slice A47 u146.2.2.length c47, .int .i64 u45.2.2.2.1], .int .i64 1]; rw [hl147, hl148]; first | done | rfl) (laws_heldBuf.ok s150 s150 no u45.1 A46 c46 u146.2.1 A47 c47 u146.2.2 u45.2.2.2.1 1 (hH.rd 9 rfl) (hH.rd 10 rfl) (Hp.own (Bs.refl s150)) _ hu154) ?_
                      rintro _ s154 ⟨rfl, hD⟩
                      replace hH := hH.back0T hD
                      clear hD
                      dsimp only [addC, setC, rmC, selC, getC] at hH
                      try dsimp only [putL, setL, evL, getL]
                      refine HL_cons rfl ?_
                      refine o_assign ?_
                      try dsimp only [putL, setL, evL, getL]
                      refine HL_nil ?_
                      refine hK153 _ _ ?_
                      refine HT_seq_k ?_
                      intro K155 hK155
                      refine HT_seq_k ?_
                      intro K156 hK156
                      refine HT_region ?_
                      refine HL_cons rfl ?_
                      refine o_move ?_
                      try dsimp only [putL, setL, evL, getL]
                      refine HL_cons rfl ?_
                      refine o_bin rfl rfl rfl ?_
                      try dsimp only [putL, setL, evL, getL]
                      refine HL_nil ?_
                      refine hK156 _ _ ?_
                      rcases Bool.eq_false_or_eq_true (decide (u154 < 0)) with hb157 | hb157
                      · replace H := iteT hb157 H
                        refine HT_true (congrArg Value.bool hb157) ?_
                        refine HT_seq_k ?_
                        intro K158 hK158
                        refine HT_region ?_
                        refine HL_cons rfl ?_
                        refine o_assign ?_
                        try dsimp only [putL, setL, evL, getL]
                        refine HL_nil ?_
                        refine hK158 _ _ ?_
                        refine HT_ret ?_
                        obtain rfl := Option.some.inj (show some _ = some r from H)
                        exact hQr _ _ [.bool false] ⟨rfl, trivial⟩ ⟨rfl, hH.sel [] (by decide)⟩
                      · replace H := iteF hb157 H
                        refine HT_false (congrArg Value.bool hb157) ?_
                        refine HT_skip ?_
                        refine hK155 _ _ ?_
                        refine HT_seq_k ?_
                        intro K159 hK159
                        refine HT_region ?_
                        refine HL_cons rfl ?_
                        refine o_move ?_
                        try dsimp only [putL, setL, evL, getL]
                        refine HL_cons rfl ?_
                        refine o_move ?_
                        try dsimp only [putL, setL, evL, getL]
                        obtain ⟨u160, hu160, H⟩ := headE H
                        refine HL_cons rfl ?_
                        refine o_call (args := #[.slice A48 u150.2.length c48, .int .i64 u154]) Try.func20 rfl rfl (by show ([.slice A48 u45.2.2.2.2.1.length c48, .int .i64 u154] : List Value) = [.slice A48 u150.2.length c48, .int .i64 u154]; rw [hl151]; first | done | rfl) (laws_heldIntS.ok s154 s154 no A48 c48 u150.2 u154 (hH.rd 11 rfl) (Hp.own (Bs.refl s154)) _ hu160) ?_
                        rintro _ s160 ⟨rfl, hD⟩
                        replace hH := hH.back0T hD
                        clear hD
                        dsimp only [addC, setC, rmC, selC, getC] at hH
                        try dsimp only [putL, setL, evL, getL]
                        refine HL_cons rfl ?_
                        refine o_assign ?_
                        try dsimp only [putL, setL, evL, getL]
                        refine HL_nil ?_
                        refine hK159 _ _ ?_
                        refine HT_seq_k ?_
                        intro K161 hK161
                        refine HT_seq_k ?_
                        intro K162 hK162
                        refine HT_region ?_
                        refine HL_cons rfl ?_
                        refine o_move ?_
                        try dsimp only [putL, setL, evL, getL]
                        refine HL_cons rfl ?_
                        refine o_bin rfl rfl rfl ?_
                        try dsimp only [putL, setL, evL, getL]
                        refine HL_nil ?_
                        refine hK162 _ _ ?_
                        rcases Bool.eq_false_or_eq_true (decide (u160 < 0)) with hb163 | hb163
                        · replace H := iteT hb163 H
                          refine HT_true (congrArg Value.bool hb163) ?_
                          refine HT_seq_k ?_
                          intro K164 hK164
                          refine HT_region ?_
                          refine HL_cons rfl ?_
                          refine o_assign ?_
                          try dsimp only [putL, setL, evL, getL]
                          refine HL_nil ?_
                          refine hK164 _ _ ?_
                          refine HT_ret ?_
                          obtain rfl := Option.some.inj (show some _ = some r from H)
                          exact hQr _ _ [.bool false] ⟨rfl, trivial⟩ ⟨rfl, hH.sel [] (by decide)⟩
                        · replace H := iteF hb163 H
                          refine HT_false (congrArg Value.bool hb163) ?_
                          refine HT_skip ?_
                          refine hK161 _ _ ?_
                          refine HT_seq_k ?_
                          intro K165 hK165
                          refine HT_seq_k ?_
                          intro K166 hK166
                          refine HT_region ?_
                          refine HL_cons rfl ?_
                          refine o_move ?_
                          try dsimp only [putL, setL, evL, getL]
                          refine HL_cons rfl ?_
                          refine o_move ?_
                          try dsimp only [putL, setL, evL, getL]
                          refine HL_cons rfl ?_
                          refine o_bin rfl rfl rfl ?_
                          try dsimp only [putL, setL, evL, getL]
                          refine HL_nil ?_
                          refine hK166 _ _ ?_
                          rcases Bool.eq_false_or_eq_true (u160 != u150.1) with hb167 | hb167
                          · replace H := iteT hb167 H
                            refine HT_true (congrArg Value.bool hb167) ?_
                            refine HT_seq_k ?_
                            intro K168 hK168
                            refine HT_region ?_
                            refine HL_cons rfl ?_
                            refine o_assign ?_
                            try dsimp only [putL, setL, evL, getL]
                            refine HL_nil ?_
                            refine hK168 _ _ ?_
                            refine HT_ret ?_
                            obtain rfl := Option.some.inj (show some _ = some r from H)
                            exact hQr _ _ [.bool false] ⟨rfl, trivial⟩ ⟨rfl, hH.sel [] (by decide)⟩
                          · replace H := iteF hb167 H
                            refine HT_false (congrArg Value.bool hb167) ?_
                            refine HT_skip ?_
                            refine hK165 _ _ ?_
                            refine HT_seq_k ?_
                            intro K169 hK169
                            refine HT_region ?_
                            refine HL_cons rfl ?_
                            refine o_loads' [.int .i64 p0_0, .slice A0_1p p0_1.length c0_1p, .slice A0_2p p0_2.length c0_2p, .int .i64 p0_3] rfl Try.underlying29 rfl tI29 rfl (hH.partv 6 rfl (0) [.int .i64 p0_0, .slice A0_1p p0_1.length c0_1p, .slice A0_2p p0_2.length c0_2p, .int .i64 p0_3] rfl) ?_
                            try dsimp only [putL, setL, evL, getL]
                            obtain ⟨u170, hu170, H⟩ := headE H
                            refine HL_cons rfl ?_
                            refine o_call (args := #[.agg #[.int .i64 p0_0, .slice A0_1p p0_1.length c0_1p, .slice A0_2p p0_2.length c0_2p, .int .i64 p0_3]]) Try.func23 rfl rfl rfl (laws_toBuf.ok sb s160 no p0_0 A0_1p c0_1p p0_1 A0_2p c0_2p p0_2 p0_3 HRp0_1 HRp0_2 (Hp.own hH.bs) _ hu170) ?_
                            rintro _ s170 ⟨A171, c171, A172, c172, rfl, hD⟩
                            replace hH := hH.back0 hD (Up.refl _ _ _)
                            clear hD
                            dsimp only [addC, setC, rmC, selC, getC] at hH
                            try dsimp only [putL, setL, evL, getL]
                            refine HL_cons rfl ?_
                            refine o_move ?_
                            try dsimp only [putL, setL, evL, getL]
                            obtain ⟨u173, hu173, H⟩ := headE H
                            refine HL_cons rfl ?_
                            refine o_call (args := #[.slice A1p p1.length c1p]) Try.func16 rfl rfl rfl (laws_toIntS.ok sb s170 no A1p c1p p1 HRp1 (Hp.own hH.bs) _ hu173) ?_
                            rintro _ s173 ⟨A174, c174, rfl, hD⟩
                            replace hH := hH.back0 hD (Up.refl _ _ _)
                            clear hD
                            dsimp only [addC, setC, rmC, selC, getC] at hH
                            try dsimp only [putL, setL, evL, getL]
                            refine HL_cons rfl ?_
                            refine o_move ?_
                            try dsimp only [putL, setL, evL, getL]
                            obtain ⟨u175, hu175, H⟩ := headE H
                            refine HL_cons rfl ?_
                            refine o_call (args := #[.slice A2p p2.length c2p]) Try.func16 rfl rfl rfl (laws_toIntS.ok sb s173 no A2p c2p p2 HRp2 (Hp.own hH.bs) _ hu175) ?_
                            rintro _ s175 ⟨A176, c176, rfl, hD⟩
                            replace hH := hH.back0 hD (Up.refl _ _ _)
                            clear hD
                            dsimp only [addC, setC, rmC, selC, getC] at hH
                            try dsimp only [putL, setL, evL, getL]
                            obtain ⟨u177, hu177, H⟩ := headE H
                            refine HL_cons rfl ?_
                            refine o_call (args := #[.agg #[.int .i64 u170.1, .slice A171 u170.2.1.length c171, .slice A172 u170.2.2.1.length c172, .int .i64 u170.2.2.2], .slice A174 u173.length c174, .slice A176 u175.length c176]) Try.func45 rfl rfl rfl (impl_PutBuf.ok s175 s175 no u170.1 A171 c171 u170.2.1 A172 c172 u170.2.2.1 u170.2.2.2 A174 c174 u173 A176 c176 u175 (hH.rd 12 rfl) (hH.rd 13 rfl) (hH.rd 14 rfl) (hH.rd 15 rfl) (Hp.own (Bs.refl s175)) _ hu177) ?_
                            rintro _ s177 ⟨A178, c178, A179, c179, A180, c180, rfl, hD⟩
                            replace hH := hH.back0T hD
                            clear hD
                            dsimp only [addC, setC, rmC, selC, getC] at hH
                            try dsimp only [putL, setL, evL, getL]
                            refine HL_cons rfl ?_
                            refine o_move ?_
                            try dsimp only [putL, setL, evL, getL]
                            refine HL_cons rfl ?_
                            refine o_extract rfl rfl ?_
                            try dsimp only [putL, setL, evL, getL]
                            refine HL_cons rfl ?_
                            refine o_extract rfl rfl ?_
                            try dsimp only [putL, setL, evL, getL]
                            refine HL_cons rfl ?_
                            refine o_extract rfl rfl ?_
                            try dsimp only [putL, setL, evL, getL]
                            refine HL_cons rfl ?_
                            refine o_allocH hH tI31 ?_
                            intro b181 s181 hH' hG
                            replace hH : Hp sb s F0 s181 [Ck.ol OI 3 A29 c29 u26.2.2.2.2.1, Ck.emp, Ck.ol OI 3 A27 c27 u26.2.1, Ck.ol OI 3 A28 c28 u26.2.2.1, Ck.emp, Ck.emp, Ck.ov b2 [.int .i64 p0_0, .slice A0_1p p0_1.length c0_1p, .slice A0_2p p0_2.length c0_2p, .int .i64 p0_3] 29, Ck.ov b30 [.int .i64 u26.1, .slice A27 u26.2.1.length c27, .slice A28 u26.2.2.1.length c28, .int .i64 u26.2.2.2.1] 31, Ck.ov b49 [.int .i64 u45.1, .slice A46 u45.2.1.length c46, .slice A47 u45.2.2.1.length c47, .int .i64 u45.2.2.2.1] 31, Ck.ol OI 3 A46 c46 u146.2.1, Ck.ol OI 3 A47 c47 u146.2.2, Ck.ol OI 3 A48 c48 u150.2, Ck.ol OI 3 A171 c171 u170.2.1, Ck.ol OI 3 A172 c172 u170.2.2.1, Ck.ol OI 3 A174 c174 u173, Ck.ol OI 3 A176 c176 u175, Ck.ol OI 3 A178 c178 u177.2.1, Ck.ol OI 3 A179 c179 u177.2.2.1, Ck.ol OI 3 A180 c180 u177.2.2.2.2.1, Ck.ov b181 [.int .i64 0, .slice none 0 0, .slice none 0 0, .int .i64 0] 31] := hH'
                            clear hH' hG
                            try dsimp only [putL, setL, evL, getL]
                            refine HL_cons rfl ?_
                            refine o_stvH (vs := [.int .i64 u177.1, .slice A178 u177.2.1.length c178, .slice A179 u177.2.2.1.length c179, .int .i64 u177.2.2.2.1]) (us' := [.int .i64 u177.1, .slice A178 u177.2.1.length c178, .slice A179 u177.2.2.1.length c179, .int .i64 u177.2.2.2.1]) hH 19 rfl rfl rfl rfl rfl tI31 rfl (List.cons_ne_nil _ _) rfl rfl rfl ?_
                            intro s182 hH'
                            replace hH : Hp sb s F0 s182 [Ck.ol OI 3 A29 c29 u26.2.2.2.2.1, Ck.emp, Ck.ol OI 3 A27 c27 u26.2.1, Ck.ol OI 3 A28 c28 u26.2.2.1, Ck.emp, Ck.emp, Ck.ov b2 [.int .i64 p0_0, .slice A0_1p p0_1.length c0_1p, .slice A0_2p p0_2.length c0_2p, .int .i64 p0_3] 29, Ck.ov b30 [.int .i64 u26.1, .slice A27 u26.2.1.length c27, .slice A28 u26.2.2.1.length c28, .int .i64 u26.2.2.2.1] 31, Ck.ov b49 [.int .i64 u45.1, .slice A46 u45.2.1.length c46, .slice A47 u45.2.2.1.length c47, .int .i64 u45.2.2.2.1] 31, Ck.ol OI 3 A46 c46 u146.2.1, Ck.ol OI 3 A47 c47 u146.2.2, Ck.ol OI 3 A48 c48 u150.2, Ck.ol OI 3 A171 c171 u170.2.1, Ck.ol OI 3 A172 c172 u170.2.2.1, Ck.ol OI 3 A174 c174 u173, Ck.ol OI 3 A176 c176 u175, Ck.ol OI 3 A178 c178 u177.2.1, Ck.ol OI 3 A179 c179 u177.2.2.1, Ck.ol OI 3 A180 c180 u177.2.2.2.2.1, Ck.ov b181 [.int .i64 u177.1, .slice A178 u177.2.1.length c178, .slice A179 u177.2.2.1.length c179, .int .i64 u177.2.2.2.1] 31] := hH'
                            clear hH'
                            try dsimp only [putL, setL, evL, getL]
                            refine HL_cons rfl ?_
                            refine o_assign ?_
                            try dsimp only [putL, setL, evL, getL]
                            refine HL_cons rfl ?_
                            refine o_assign ?_
                            try dsimp only [putL, setL, evL, getL]
                            refine HL_nil ?_
                            refine hK169 _ _ ?_
                            refine HT_seq_k ?_
                            intro K197 hK197
                            refine joinH H fun G198 hG198 H => ?_
                            refine HT_joinK (fun l' s' => ∃ (x203 : Bool), G198 x203 = some r ∧ l' = [.agg #[.int .i64 p0_0, .slice A0_1p p0_1.length c0_1p, .slice A0_2p p0_2.length c0_2p, .int .i64 p0_3], .slice A1p p1.length c1p, .slice A2p p2.length c2p, .pointer (some ⟨b2, 0, none⟩), undef, undef, .bool false, .int .i64 u13, .pointer (some ⟨b30, 0, none⟩), .slice A29 u26.2.2.2.2.1.length c29, .bool u26.2.2.2.2.2, .pointer (some ⟨b36, 0, none⟩), .slice A40 u39.length c40, .slice A43 u42.length c43, .pointer (some ⟨b49, 0, none⟩), .slice A48 u45.2.2.2.2.1.length c48, .bool u45.2.2.2.2.2, .int .i64 u110.1, .int .i64 u150.1, .int .i64 u160, .pointer (some ⟨b181, 0, none⟩), .slice A180 u177.2.2.2.2.1.length c180, .bool u177.2.2.2.2.2, .slice A1p p1.length c1p, .int .i64 (p1.length : Int), .bool (decide ((p1.length : Int) > 1048576)), .slice A2p p2.length c2p, .int .i64 (p2.length : Int), .bool (decide ((p2.length : Int) > 1048576)), .agg #[.int .i64 p0_0, .slice A0_1p p0_1.length c0_1p, .slice A0_2p p0_2.length c0_2p, .int .i64 p0_3], .int .i64 1048576, .int .i64 u13, .int .i64 u13, .bool (decide (u13 < 0)), .tuple #[.agg #[.int .i64 u26.1, .slice A27 u26.2.1.length c27, .slice A28 u26.2.2.1.length c28, .int .i64 u26.2.2.2.1], .slice A29 u26.2.2.2.2.1.length c29, .bool u26.2.2.2.2.2], .agg #[.int .i64 p0_0, .slice A0_1p p0_1.length c0_1p, .slice A0_2p p0_2.length c0_2p, .int .i64 p0_3], .agg #[.int .i64 u19.1, .slice A20 u19.2.1.length c20, .slice A21 u19.2.2.1.length c21, .int .i64 u19.2.2.2], .slice A1p p1.length c1p, .slice A23 u22.length c23, .slice A2p p2.length c2p, .slice A25 u24.length c25, .tuple #[.agg #[.int .i64 u26.1, .slice A27 u26.2.1.length c27, .slice A28 u26.2.2.1.length c28, .int .i64 u26.2.2.2.1], .slice A29 u26.2.2.2.2.1.length c29, .bool u26.2.2.2.2.2], .agg #[.int .i64 u26.1, .slice A27 u26.2.1.length c27, .slice A28 u26.2.2.1.length c28, .int .i64 u26.2.2.2.1], .slice A29 u26.2.2.2.2.1.length c29, .bool u26.2.2.2.2.2, .agg #[.int .i64 p0_0, .slice A0_1p p0_1.length c0_1p, .slice A0_2p p0_2.length c0_2p, .int .i64 p0_3], .agg #[.int .i64 u33.1, .slice A34 u33.2.1.length c34, .slice A35 u33.2.2.1.length c35, .int .i64 u33.2.2.2], .slice A1p p1.length c1p, .slice A40 u39.length c40, .slice A2p p2.length c2p, .slice A43 u42.length c43, .tuple #[.agg #[.int .i64 u45.1, .slice A46 u45.2.1.length c46, .slice A47 u45.2.2.1.length c47, .int .i64 u45.2.2.2.1], .slice A48 u45.2.2.2.2.1.length c48, .bool u45.2.2.2.2.2], .agg #[.int .i64 u33.1, .slice A34 u33.2.1.length c34, .slice A35 u33.2.2.1.length c35, .int .i64 u33.2.2.2], .slice A40 u39.length c40, .slice A43 u42.length c43, .tuple #[.agg #[.int .i64 u45.1, .slice A46 u45.2.1.length c46, .slice A47 u45.2.2.1.length c47, .int .i64 u45.2.2.2.1], .slice A48 u45.2.2.2.2.1.length c48, .bool u45.2.2.2.2.2], .agg #[.int .i64 u45.1, .slice A46 u45.2.1.length c46, .slice A47 u45.2.2.1.length c47, .int .i64 u45.2.2.2.1], .slice A48 u45.2.2.2.2.1.length c48, .bool u45.2.2.2.2.2, j59, j60, j61, j62, j63, j64, j65, j66, j67, j68, j69, j70, j71, j72, .bool x71, .agg #[.int .i64 u33.1, .slice A34 u33.2.1.length c34, .slice A35 u33.2.2.1.length c35, .int .i64 u33.2.2.2], .agg #[.int .i64 p0_0, .slice A0_1p p0_1.length c0_1p, .slice A0_2p p0_2.length c0_2p, .int .i64 p0_3], .agg #[.int .i64 u81.1, .slice A82 u81.2.1.length c82, .slice A83 u81.2.2.1.length c83, .int .i64 u81.2.2.2], .bool u84, .bool (!u84), .slice A40 u39.length c40, .slice A1p p1.length c1p, .slice A90 u89.length c90, .bool u91, .bool (!u91), .slice A43 u42.length c43, .slice A2p p2.length c2p, .slice A97 u96.length c97, .bool u98, .bool (!u98), .agg #[.int .i64 u33.1, .slice A34 u33.2.1.length c34, .slice A35 u33.2.2.1.length c35, .int .i64 u33.2.2.2], .int .i64 1, .int .i64 u103.1, .slice A40 u39.length c40, .int .i64 u103.1, .int .i64 u107.1, .slice A43 u42.length c43, .int .i64 u107.1, .int .i64 u110.1, j98, j99, j100, j101, j102, j103, j104, j105, j106, j107, j108, j109, j110, j111, j112, j113, j114, j115, .bool x135, .agg #[.int .i64 u45.1, .slice A46 u45.2.1.length c46, .slice A47 u45.2.2.1.length c47, .int .i64 u45.2.2.2.1], .int .i64 1, .int .i64 u146.1, .slice A48 u45.2.2.2.2.1.length c48, .int .i64 u146.1, .int .i64 u150.1, .agg #[.int .i64 u45.1, .slice A46 u45.2.1.length c46, .slice A47 u45.2.2.1.length c47, .int .i64 u45.2.2.2.1], .int .i64 1, .int .i64 u154, .int .i64 u154, .bool (decide (u154 < 0)), .slice A48 u45.2.2.2.2.1.length c48, .int .i64 u154, .int .i64 u160, .int .i64 u160, .bool (decide (u160 < 0)), .int .i64 u160, .int .i64 u150.1, .bool (u160 != u150.1), .tuple #[.agg #[.int .i64 u177.1, .slice A178 u177.2.1.length c178, .slice A179 u177.2.2.1.length c179, .int .i64 u177.2.2.2.1], .slice A180 u177.2.2.2.2.1.length c180, .bool u177.2.2.2.2.2], .agg #[.int .i64 p0_0, .slice A0_1p p0_1.length c0_1p, .slice A0_2p p0_2.length c0_2p, .int .i64 p0_3], .agg #[.int .i64 u170.1, .slice A171 u170.2.1.length c171, .slice A172 u170.2.2.1.length c172, .int .i64 u170.2.2.2], .slice A1p p1.length c1p, .slice A174 u173.length c174, .slice A2p p2.length c2p, .slice A176 u175.length c176, .tuple #[.agg #[.int .i64 u177.1, .slice A178 u177.2.1.length c178, .slice A179 u177.2.2.1.length c179, .int .i64 u177.2.2.2.1], .slice A180 u177.2.2.2.2.1.length c180, .bool u177.2.2.2.2.2], .agg #[.int .i64 u177.1, .slice A178 u177.2.1.length c178, .slice A179 u177.2.2.1.length c179, .int .i64 u177.2.2.2.1], .slice A180 u177.2.2.2.2.1.length c180, .bool u177.2.2.2.2.2, getL l' 147, getL l' 148, getL l' 149, getL l' 150, getL l' 151, getL l' 152, getL l' 153, getL l' 154, getL l' 155, getL l' 156, getL l' 157, getL l' 158, getL l' 159, getL l' 160, .bool x203, undef, undef, undef, undef, undef, undef, undef, undef, undef, undef, undef, undef, undef] ∧ Hp sb s F0 s' [Ck.ol OI 3 A48 c48 u150.2, Ck.ol OI 3 A46 c46 u146.2.1, Ck.ol OI 3 A47 c47 u146.2.2, Ck.ov b49 [.int .i64 u45.1, .slice A46 u45.2.1.length c46, .slice A47 u45.2.2.1.length c47, .int .i64 u45.2.2.2.1] 31]) ?_ ?_
                            · intro K198 hK198
                              refine HT_region ?_
                              refine HL_cons rfl ?_
                              refine o_loads' [.int .i64 u177.1, .slice A178 u177.2.1.length c178, .slice A179 u177.2.2.1.length c179, .int .i64 u177.2.2.2.1] rfl Try.underlying31 rfl tI31 rfl (hH.partv 19 rfl (0) [.int .i64 u177.1, .slice A178 u177.2.1.length c178, .slice A179 u177.2.2.1.length c179, .int .i64 u177.2.2.2.1] rfl) ?_
                              try dsimp only [putL, setL, evL, getL]
                              refine HL_cons rfl ?_
                              refine o_loads' [.int .i64 u26.1, .slice A27 u26.2.1.length c27, .slice A28 u26.2.2.1.length c28, .int .i64 u26.2.2.2.1] rfl Try.underlying31 rfl tI31 rfl (hH.partv 7 rfl (0) [.int .i64 u26.1, .slice A27 u26.2.1.length c27, .slice A28 u26.2.2.1.length c28, .int .i64 u26.2.2.2.1] rfl) ?_
                              try dsimp only [putL, setL, evL, getL]
                              obtain ⟨u204, hu204, H⟩ := headE H
                              refine HL_cons rfl ?_
                              refine o_call (args := #[.agg #[.int .i64 u177.1, .slice A178 u177.2.1.length c178, .slice A179 u177.2.2.1.length c179, .int .i64 u177.2.2.2.1], .agg #[.int .i64 u26.1, .slice A27 u26.2.1.length c27, .slice A28 u26.2.2.1.length c28, .int .i64 u26.2.2.2.1]]) Try.func25 rfl rfl rfl (laws_eqBuf.ok s182 s182 no u177.1 A178 c178 u177.2.1 A179 c179 u177.2.2.1 u177.2.2.2.1 u26.1 A27 c27 u26.2.1 A28 c28 u26.2.2.1 u26.2.2.2.1 (hH.rd 16 rfl) (hH.rd 17 rfl) (hH.rd 2 rfl) (hH.rd 3 rfl) (Hp.own (Bs.refl s182)) _ hu204) ?_
                              rintro _ s204 ⟨rfl, hD⟩
                              replace hH := hH.back0T hD
                              clear hD
                              dsimp only [addC, setC, rmC, selC, getC] at hH
                              try dsimp only [putL, setL, evL, getL]
                              refine HL_cons rfl ?_
                              refine o_not rfl ?_
                              try dsimp only [putL, setL, evL, getL]
                              refine HL_cons rfl ?_
                              refine o_move ?_
                              try dsimp only [putL, setL, evL, getL]
                              rcases Bool.eq_false_or_eq_true (!u204) with hb205 | hb205
                              · replace H := iteT hb205 H
                                refine HL_skip ?_ ?_
                                · exact wantF (j := 4) (b := false) (t := 151) (c := !u204) rfl rfl rfl rfl hb205
                                try dsimp only [putL, setL, evL, getL]
                                refine HL_skip ?_ ?_
                                · exact wantF (j := 4) (b := false) (t := 151) (c := !u204) rfl rfl rfl rfl hb205
                                try dsimp only [putL, setL, evL, getL]
                                refine HL_skip ?_ ?_
                                · exact wantF (j := 4) (b := false) (t := 151) (c := !u204) rfl rfl rfl rfl hb205
                                try dsimp only [putL, setL, evL, getL]
                                refine HL_skip ?_ ?_
                                · exact wantF (j := 4) (b := false) (t := 151) (c := !u204) rfl rfl rfl rfl hb205
                                try dsimp only [putL, setL, evL, getL]
                                refine HL_cons rfl ?_
                                refine o_pickT rfl hb205 ?_
                                try dsimp only [putL, setL, evL, getL]
                                refine HL_cons rfl ?_
                                refine o_move ?_
                                try dsimp only [putL, setL, evL, getL]
                                refine HL_skip ?_ ?_
                                · exact wantF (j := 10) (b := false) (t := 157) (c := true) rfl rfl rfl rfl rfl
                                try dsimp only [putL, setL, evL, getL]
                                refine HL_skip ?_ ?_
                                · exact wantF (j := 10) (b := false) (t := 157) (c := true) rfl rfl rfl rfl rfl
                                try dsimp only [putL, setL, evL, getL]
                                refine HL_skip ?_ ?_
                                · exact wantF (j := 10) (b := false) (t := 157) (c := true) rfl rfl rfl rfl rfl
                                try dsimp only [putL, setL, evL, getL]
                                refine HL_cons rfl ?_
                                refine o_pickT rfl rfl ?_
                                try dsimp only [putL, setL, evL, getL]
                                refine HL_nil ?_
                                exact hK198 _ _ ⟨true, H, rfl, (by first | exact hH.sel [11, 9, 10, 8] (by decide) | (rw [hl147, hl148]; exact hH.sel [11, 9, 10, 8] (by decide)))⟩
                              · replace H := iteF hb205 H
                                refine HL_want ?_ ?_
                                · exact wantT (j := 4) (b := false) (t := 151) (c := !u204) rfl rfl rfl rfl hb205
                                refine o_move ?_
                                try dsimp only [putL, setL, evL, getL]
                                refine HL_want ?_ ?_
                                · exact wantT (j := 4) (b := false) (t := 151) (c := !u204) rfl rfl rfl rfl hb205
                                refine o_move ?_
                                try dsimp only [putL, setL, evL, getL]
                                obtain ⟨u206, hu206, H⟩ := headE H
                                refine HL_want ?_ ?_
                                · exact wantT (j := 4) (b := false) (t := 151) (c := !u204) rfl rfl rfl rfl hb205
                                refine o_call (args := #[.slice A180 u177.2.2.2.2.1.length c180, .slice A29 u26.2.2.2.2.1.length c29]) Try.func18 rfl rfl rfl (laws_eqIntS.ok s204 s204 no A180 c180 u177.2.2.2.2.1 A29 c29 u26.2.2.2.2.1 (hH.rd 18 rfl) (hH.rd 0 rfl) (Hp.own (Bs.refl s204)) _ hu206) ?_
                                rintro _ s206 ⟨rfl, hD⟩
                                replace hH := hH.back0T hD
                                clear hD
                                dsimp only [addC, setC, rmC, selC, getC] at hH
                                try dsimp only [putL, setL, evL, getL]
                                refine HL_want ?_ ?_
                                · exact wantT (j := 4) (b := false) (t := 151) (c := !u204) rfl rfl rfl rfl hb205
                                refine o_not rfl ?_
                                try dsimp only [putL, setL, evL, getL]
                                refine HL_cons rfl ?_
                                refine o_pickF rfl hb205 ?_
                                try dsimp only [putL, setL, evL, getL]
                                refine HL_cons rfl ?_
                                refine o_move ?_
                                try dsimp only [putL, setL, evL, getL]
                                rcases Bool.eq_false_or_eq_true (!u206) with hb207 | hb207
                                · replace H := iteT hb207 H
                                  refine HL_skip ?_ ?_
                                  · exact wantF (j := 10) (b := false) (t := 157) (c := !u206) rfl rfl rfl rfl hb207
                                  try dsimp only [putL, setL, evL, getL]
                                  refine HL_skip ?_ ?_
                                  · exact wantF (j := 10) (b := false) (t := 157) (c := !u206) rfl rfl rfl rfl hb207
                                  try dsimp only [putL, setL, evL, getL]
                                  refine HL_skip ?_ ?_
                                  · exact wantF (j := 10) (b := false) (t := 157) (c := !u206) rfl rfl rfl rfl hb207
                                  try dsimp only [putL, setL, evL, getL]
                                  refine HL_cons rfl ?_
                                  refine o_pickT rfl hb207 ?_
                                  try dsimp only [putL, setL, evL, getL]
                                  refine HL_nil ?_
                                  exact hK198 _ _ ⟨true, H, rfl, (by first | exact hH.sel [11, 9, 10, 8] (by decide) | (rw [hl147, hl148]; exact hH.sel [11, 9, 10, 8] (by decide)))⟩
                                · replace H := iteF hb207 H
                                  refine HL_want ?_ ?_
                                  · exact wantT (j := 10) (b := false) (t := 157) (c := !u206) rfl rfl rfl rfl hb207
                                  refine o_move ?_
                                  try dsimp only [putL, setL, evL, getL]
                                  refine HL_want ?_ ?_
                                  · exact wantT (j := 10) (b := false) (t := 157) (c := !u206) rfl rfl rfl rfl hb207
                                  refine o_move ?_
                                  try dsimp only [putL, setL, evL, getL]
                                  refine HL_want ?_ ?_
                                  · exact wantT (j := 10) (b := false) (t := 157) (c := !u206) rfl rfl rfl rfl hb207
                                  refine o_neb rfl rfl Try.underlying4 ?_
                                  try dsimp only [putL, setL, evL, getL]
                                  refine HL_cons rfl ?_
                                  refine o_pickF rfl hb207 ?_
                                  try dsimp only [putL, setL, evL, getL]
                                  refine HL_nil ?_
                                  exact hK198 _ _ ⟨u177.2.2.2.2.2 != u26.2.2.2.2.2, H, rfl, (by first | exact hH.sel [11, 9, 10, 8] (by decide) | (rw [hl147, hl148]; exact hH.sel [11, 9, 10, 8] (by decide)))⟩
                            · rintro l' s208 ⟨x203, H, hl, hH⟩
                              generalize getL l' 147 = j147, getL l' 148 = j148, getL l' 149 = j149, getL l' 150 = j150, getL l' 151 = j151, getL l' 152 = j152, getL l' 153 = j153, getL l' 154 = j154, getL l' 155 = j155, getL l' 156 = j156, getL l' 157 = j157, getL l' 158 = j158, getL l' 159 = j159, getL l' 160 = j160 at hl
                              subst hl
                              replace H := hG198 _ H
                              try dsimp only at H
                              rcases Bool.eq_false_or_eq_true x203 with hb209 | hb209
                              · replace H := iteT hb209 H
                                refine HT_true (congrArg Value.bool hb209) ?_
                                refine HT_seq_k ?_
                                intro K210 hK210
                                refine HT_region ?_
                                refine HL_cons rfl ?_
                                refine o_assign ?_
                                try dsimp only [putL, setL, evL, getL]
                                refine HL_nil ?_
                                refine hK210 _ _ ?_
                                refine HT_ret ?_
                                obtain rfl := Option.some.inj (show some _ = some r from H)
                                exact hQr _ _ [.bool false] ⟨rfl, trivial⟩ ⟨rfl, hH.sel [] (by decide)⟩
                              · replace H := iteF hb209 H
                                refine HT_false (congrArg Value.bool hb209) ?_
                                refine HT_skip ?_
                                refine hK197 _ _ ?_
                                refine HT_seq_k ?_
                                intro K211 hK211
                                refine HT_region ?_
                                refine HL_cons rfl ?_
                                refine o_assign ?_
                                try dsimp only [putL, setL, evL, getL]
                                refine HL_nil ?_
                                refine hK211 _ _ ?_
                                refine HT_seq_k ?_
                                intro K212 hK212
                                refine HT_region ?_
                                refine HL_cons rfl ?_
                                refine o_loads' [.int .i64 u45.1, .slice A46 u45.2.1.length c46, .slice A47 u45.2.2.1.length c47, .int .i64 u45.2.2.2.1] rfl Try.underlying31 rfl tI31 rfl (hH.partv 3 rfl (0) [.int .i64 u45.1, .slice A46 u45.2.1.length c46, .slice A47 u45.2.2.1.length c47, .int .i64 u45.2.2.2.1] rfl) ?_
                                try dsimp only [putL, setL, evL, getL]
                                refine HL_cons rfl ?_
                                refine o_move ?_
                                try dsimp only [putL, setL, evL, getL]
                                obtain ⟨u213, hu213, H⟩ := headE H
                                refine HL_cons rfl ?_
                                refine o_call (args := #[.agg #[.int .i64 u45.1, .slice A46 u146.2.1.length c46, .slice A47 u146.2.2.length c47, .int .i64 u45.2.2.2.1], .int .i64 1]) Try.func27 rfl rfl (by show ([.agg #[.int .i64 u45.1, .slice A46 u45.2.1.length c46, .slice A47 u45.2.2.1.length c47, .int .i64 u45.2.2.2.1], .int .i64 1] : List Value) = [.agg #[.int .i64 u45.1, .slice A46 u146.2.1.length c46, .slice A47 u146.2.2.length c47, .int .i64 u45.2.2.2.1], .int .i64 1]; rw [hl147, hl148]; first | done | rfl) (laws_heldBuf.ok s208 s208 no u45.1 A46 c46 u146.2.1 A47 c47 u146.2.2 u45.2.2.2.1 1 (hH.rd 1 rfl) (hH.rd 2 rfl) (Hp.own (Bs.refl s208)) _ hu213) ?_
                                rintro _ s213 ⟨rfl, hD⟩
                                replace hH := hH.back0T hD
                                clear hD
                                dsimp only [addC, setC, rmC, selC, getC] at hH
                                try dsimp only [putL, setL, evL, getL]
                                refine HL_cons rfl ?_
                                refine o_assign ?_
                                try dsimp only [putL, setL, evL, getL]
                                refine HL_nil ?_
                                refine hK212 _ _ ?_
                                refine HT_seq_k ?_
                                intro K214 hK214
                                refine HT_seq_k ?_
                                intro K215 hK215
                                refine HT_region ?_
                                refine HL_cons rfl ?_
                                refine o_move ?_
                                try dsimp only [putL, setL, evL, getL]
                                refine HL_cons rfl ?_
                                refine o_bin rfl rfl rfl ?_
                                try dsimp only [putL, setL, evL, getL]
                                refine HL_nil ?_
                                refine hK215 _ _ ?_
                                rcases Bool.eq_false_or_eq_true (decide (u213 < 0)) with hb216 | hb216
                                · replace H := iteT hb216 H
                                  refine HT_true (congrArg Value.bool hb216) ?_
                                  refine HT_seq_k ?_
                                  intro K217 hK217
                                  refine HT_region ?_
                                  refine HL_cons rfl ?_
                                  refine o_assign ?_
                                  try dsimp only [putL, setL, evL, getL]
                                  refine HL_nil ?_
                                  refine hK217 _ _ ?_
                                  refine HT_ret ?_
                                  obtain rfl := Option.some.inj (show some _ = some r from H)
                                  exact hQr _ _ [.bool false] ⟨rfl, trivial⟩ ⟨rfl, hH.sel [] (by decide)⟩
                                · replace H := iteF hb216 H
                                  refine HT_false (congrArg Value.bool hb216) ?_
                                  refine HT_skip ?_
                                  refine hK214 _ _ ?_
                                  refine HT_seq_k ?_
                                  intro K218 hK218
                                  refine HT_region ?_
                                  refine HL_cons rfl ?_
                                  refine o_move ?_
                                  try dsimp only [putL, setL, evL, getL]
                                  refine HL_cons rfl ?_
                                  refine o_move ?_
                                  try dsimp only [putL, setL, evL, getL]
                                  obtain ⟨u219, hu219, H⟩ := headE H
                                  refine HL_cons rfl ?_
                                  refine o_call (args := #[.slice A48 u150.2.length c48, .int .i64 u213]) Try.func20 rfl rfl (by show ([.slice A48 u45.2.2.2.2.1.length c48, .int .i64 u213] : List Value) = [.slice A48 u150.2.length c48, .int .i64 u213]; rw [hl151]; first | done | rfl) (laws_heldIntS.ok s213 s213 no A48 c48 u150.2 u213 (hH.rd 0 rfl) (Hp.own (Bs.refl s213)) _ hu219) ?_
                                  rintro _ s219 ⟨rfl, hD⟩
                                  replace hH := hH.back0T hD
                                  clear hD
                                  dsimp only [addC, setC, rmC, selC, getC] at hH
                                  try dsimp only [putL, setL, evL, getL]
                                  refine HL_cons rfl ?_
                                  refine o_assign ?_
                                  try dsimp only [putL, setL, evL, getL]
                                  refine HL_nil ?_
                                  refine hK218 _ _ ?_
                                  refine HT_seq_k ?_
                                  intro K220 hK220
                                  refine HT_seq_k ?_
                                  intro K221 hK221
                                  refine HT_region ?_
                                  refine HL_cons rfl ?_
                                  refine o_move ?_
                                  try dsimp only [putL, setL, evL, getL]
                                  refine HL_cons rfl ?_
                                  refine o_bin rfl rfl rfl ?_
                                  try dsimp only [putL, setL, evL, getL]
                                  refine HL_nil ?_
                                  refine hK221 _ _ ?_
                                  rcases Bool.eq_false_or_eq_true (decide (u219 < 0)) with hb222 | hb222
                                  · replace H := iteT hb222 H
                                    refine HT_true (congrArg Value.bool hb222) ?_
                                    refine HT_seq_k ?_
                                    intro K223 hK223
                                    refine HT_region ?_
                                    refine HL_cons rfl ?_
                                    refine o_assign ?_
                                    try dsimp only [putL, setL, evL, getL]
                                    refine HL_nil ?_
                                    refine hK223 _ _ ?_
                                    refine HT_ret ?_
                                    obtain rfl := Option.some.inj (show some _ = some r from H)
                                    exact hQr _ _ [.bool false] ⟨rfl, trivial⟩ ⟨rfl, hH.sel [] (by decide)⟩
                                  · replace H := iteF hb222 H
                                    refine HT_false (congrArg Value.bool hb222) ?_
                                    refine HT_skip ?_
                                    refine hK220 _ _ ?_
                                    refine HT_seq_k ?_
                                    intro K224 hK224
                                    refine HT_seq_k ?_
                                    intro K225 hK225
                                    refine HT_region ?_
                                    refine HL_cons rfl ?_
                                    refine o_move ?_
                                    try dsimp only [putL, setL, evL, getL]
                                    refine HL_cons rfl ?_
                                    refine o_move ?_
                                    try dsimp only [putL, setL, evL, getL]
                                    refine HL_cons rfl ?_
                                    refine o_bin rfl rfl rfl ?_
                                    try dsimp only [putL, setL, evL, getL]
                                    refine HL_nil ?_
                                    refine hK225 _ _ ?_
                                    rcases Bool.eq_false_or_eq_true (u219 != u150.1) with hb226 | hb226
                                    · replace H := iteT hb226 H
                                      refine HT_true (congrArg Value.bool hb226) ?_
                                      refine HT_seq_k ?_
                                      intro K227 hK227
                                      refine HT_region ?_
                                      refine HL_cons rfl ?_
                                      refine o_assign ?_
                                      try dsimp only [putL, setL, evL, getL]
                                      refine HL_nil ?_
                                      refine hK227 _ _ ?_
                                      refine HT_ret ?_
                                      obtain rfl := Option.some.inj (show some _ = some r from H)
                                      exact hQr _ _ [.bool false] ⟨rfl, trivial⟩ ⟨rfl, hH.sel [] (by decide)⟩
                                    · replace H := iteF hb226 H
                                      refine HT_false (congrArg Value.bool hb226) ?_
                                      refine HT_skip ?_
                                      refine hK224 _ _ ?_
                                      refine HT_seq_k ?_
                                      intro K228 hK228
                                      refine HT_region ?_
                                      refine HL_cons rfl ?_
                                      refine o_assign ?_
                                      try dsimp only [putL, setL, evL, getL]
                                      refine HL_nil ?_
                                      refine hK228 _ _ ?_
                                      refine HT_ret ?_
                                      obtain rfl := Option.some.inj (show some _ = some r from H)
                                      exact hQr _ _ [.bool true] ⟨rfl, trivial⟩ ⟨rfl, hH.sel [] (by decide)⟩
end Go.Proofs.Ytopecknfnhocpaa
