/- The functions that the law reaches, as plain functions, each with its contract: printed by a program of the prover's. No conditions: lemmas. -/
import Derived.Test.YtkieinlcpkpcjaaWSpansOf1
set_option linter.unusedVariables false
set_option linter.unusedSimpArgs false
namespace Go.Proofs.Ytkieinlcpkpcjaa
open Go Go.Proofs.GL
def impl_SpansOf.f (p0 : List ((Int) × (List (Int)))) (p1 : List ((Int) × (Int) × (Int))) (p2 : Int) : Option ((List ((Int) × (Int) × (Int))) × Bool) := ((impl_GoodRe.f p0).bind fun u30 => if (!u30) = true then (some true) else ((impl_isPlain.f p0).bind fun u32 => if (!u32) = true then (some true) else (if (decide ((p1.length : Int) > 200)) = true then (some true) else ((impl_isPlace.f p2 (p0.length : Int)).bind fun u35 => some (!u35))))).bind fun (o : Bool) => match o with | x29 => (if x29 = true then (some ([], false)) else ((slices_Clone_impl_Span_impl_Span.f p1).bind fun u40 => (slices_DeleteFunc_impl_Span_impl_Span_impl_SpansOf_1.f u40 p2).bind fun u42 => some (u42, true)))
def impl_SpansOf.post (sb s : St) (F0 : Fp) (r : (List ((Int) × (Int) × (Int))) × Bool) : Value → St → Prop := fun v s' => ∃ (A0 : Option Addr) (c0 : Nat), v = .tuple #[.slice A0 r.1.length c0, .bool r.2] ∧ Hp sb s F0 s' [Ck.ol OS138 138 A0 c0 r.1]
set_option maxRecDepth 100000 in
set_option maxHeartbeats 4000000 in
theorem impl_SpansOf.ok (sb s : St) (F0 : Fp) (A0p : Option Addr) (c0p : Nat) (p0 : List ((Int) × (List (Int)))) (A1p : Option Addr) (c1p : Nat) (p1 : List ((Int) × (Int) × (Int))) (p2 : Int) (HRp0 : Rd KS139 sb A0p c0p p0) (HRp1 : Rd KS138 sb A1p c1p p1) (hH : Hp sb s F0 s []) (r : (List ((Int) × (Int) × (Int))) × Bool) (H : impl_SpansOf.f p0 p1 p2 = some r) : GCall Try.prog 42 #[.slice A0p p0.length c0p, .slice A1p p1.length c1p, .int .i64 p2] s (impl_SpansOf.post sb s F0 r) := by
  refine GCall_ofk [.tmp 6, .tmp 7] [.slice A0p p0.length c0p, .slice A1p p1.length c1p, .int .i64 p2, undef, undef, undef, undef, undef, undef, undef, undef, undef, undef, undef, undef, undef, undef, undef, undef, undef, undef, undef, undef, undef, undef, undef, undef, undef, undef, undef, undef, undef] Try.func42 rfl rfl rfl ?_
  intro w Q hQr hQn hQp
  replace H := topE H
  unfold impl_SpansOf.f at H
  refine HT_seq_k ?_
  intro K1 hK1
  refine HT_region ?_
  refine HL_cons rfl ?_
  refine o_box1H hH rfl rfl ?_
  intro b2 s2 hH' hG
  replace hH : Hp sb s F0 s2 [Ck.ov b2 [.int .i64 p2] 3] := hH'
  clear hH' hG
  try dsimp only [putL, setL, evL, getL]
  refine HL_cons rfl ?_
  refine o_assign ?_
  try dsimp only [putL, setL, evL, getL]
  refine HL_cons rfl ?_
  refine o_assign ?_
  try dsimp only [putL, setL, evL, getL]
  refine HL_nil ?_
  refine hK1 _ _ ?_
  refine HT_seq_k ?_
  intro K21 hK21
  refine joinH H fun G22 hG22 H => ?_
  refine HT_joinK (fun l' s' => ∃ (x29 : Bool), G22 x29 = some r ∧ l' = [.slice A0p p0.length c0p, .slice A1p p1.length c1p, .int .i64 p2, undef, undef, .pointer (some ⟨b2, 0, none⟩), .slice none 0 0, .bool false, getL l' 8, getL l' 9, getL l' 10, getL l' 11, getL l' 12, getL l' 13, getL l' 14, getL l' 15, getL l' 16, getL l' 17, getL l' 18, getL l' 19, getL l' 20, getL l' 21, getL l' 22, getL l' 23, getL l' 24, getL l' 25, getL l' 26, .bool x29, undef, undef, undef, undef] ∧ Hp sb s F0 s' [Ck.ov b2 [.int .i64 p2] 3]) ?_ ?_
  · intro K22 hK22
    refine HT_region ?_
    refine HL_cons rfl ?_
    refine o_move ?_
    try dsimp only [putL, setL, evL, getL]
    replace H := headE H
    obtain ⟨u30, hu30, H⟩ := H
    refine HL_cons rfl ?_
    refine o_call (args := #[.slice A0p p0.length c0p]) Try.func131 rfl rfl rfl (impl_GoodRe.ok sb s2 no A0p c0p p0 HRp0 (Hp.own hH.bs) _ hu30) ?_
    rintro _ s30 ⟨rfl, hD⟩
    replace hH := hH.back0 hD (Up.refl _ _ _)
    clear hD
    dsimp only [addC, setC, rmC, selC, getC] at hH
    try dsimp only [putL, setL, evL, getL]
    refine HL_cons rfl ?_
    refine o_not rfl ?_
    try dsimp only [putL, setL, evL, getL]
    refine HL_cons rfl ?_
    refine o_move ?_
    try dsimp only [putL, setL, evL, getL]
    rcases Bool.eq_false_or_eq_true (!u30) with hb31 | hb31
    · replace H := iteT hb31 H
      refine HL_skip ?_ ?_
      · exact wantF (j := 3) (b := false) (t := 11) (c := !u30) rfl rfl rfl rfl hb31
      try dsimp only [putL, setL, evL, getL]
      refine HL_skip ?_ ?_
      · exact wantF (j := 3) (b := false) (t := 11) (c := !u30) rfl rfl rfl rfl hb31
      try dsimp only [putL, setL, evL, getL]
      refine HL_skip ?_ ?_
      · exact wantF (j := 3) (b := false) (t := 11) (c := !u30) rfl rfl rfl rfl hb31
      try dsimp only [putL, setL, evL, getL]
      refine HL_cons rfl ?_
      refine o_pickT rfl hb31 ?_
      try dsimp only [putL, setL, evL, getL]
      refine HL_cons rfl ?_
      refine o_move ?_
      try dsimp only [putL, setL, evL, getL]
      refine HL_skip ?_ ?_
      · exact wantF (j := 8) (b := false) (t := 16) (c := true) rfl rfl rfl rfl rfl
      try dsimp only [putL, setL, evL, getL]
      refine HL_skip ?_ ?_
      · exact wantF (j := 8) (b := false) (t := 16) (c := true) rfl rfl rfl rfl rfl
      try dsimp only [putL, setL, evL, getL]
      refine HL_skip ?_ ?_
      · exact wantF (j := 8) (b := false) (t := 16) (c := true) rfl rfl rfl rfl rfl
      try dsimp only [putL, setL, evL, getL]
      refine HL_cons rfl ?_
      refine o_pickT rfl rfl ?_
      try dsimp only [putL, setL, evL, getL]
      refine HL_cons rfl ?_
      refine o_move ?_
      try dsimp only [putL, setL, evL, getL]
      refine HL_skip ?_ ?_
      · exact wantF (j := 13) (b := false) (t := 21) (c := true) rfl rfl rfl rfl rfl
      try dsimp only [putL, setL, evL, getL]
      refine HL_skip ?_ ?_
      · exact wantF (j := 13) (b := false) (t := 21) (c := true) rfl rfl rfl rfl rfl
      try dsimp only [putL, setL, evL, getL]
      refine HL_skip ?_ ?_
      · exact wantF (j := 13) (b := false) (t := 21) (c := true) rfl rfl rfl rfl rfl
      try dsimp only [putL, setL, evL, getL]
      refine HL_skip ?_ ?_
      · exact wantF (j := 13) (b := false) (t := 21) (c := true) rfl rfl rfl rfl rfl
      try dsimp only [putL, setL, evL, getL]
      refine HL_skip ?_ ?_
      · exact wantF (j := 13) (b := false) (t := 21) (c := true) rfl rfl rfl rfl rfl
      try dsimp only [putL, setL, evL, getL]
      refine HL_cons rfl ?_
      refine o_pickT rfl rfl ?_
      try dsimp only [putL, setL, evL, getL]
      refine HL_nil ?_
      exact hK22 _ _ ⟨true, H, rfl, hH⟩
    · replace H := iteF hb31 H
      refine HL_want ?_ ?_
      · exact wantT (j := 3) (b := false) (t := 11) (c := !u30) rfl rfl rfl rfl hb31
      refine o_move ?_
      try dsimp only [putL, setL, evL, getL]
      replace H := headE H
      obtain ⟨u32, hu32, H⟩ := H
      refine HL_want ?_ ?_
      · exact wantT (j := 3) (b := false) (t := 11) (c := !u30) rfl rfl rfl rfl hb31
      refine o_call (args := #[.slice A0p p0.length c0p]) Try.func132 rfl rfl rfl (impl_isPlain.ok sb s30 no A0p c0p p0 HRp0 (Hp.own hH.bs) _ hu32) ?_
      rintro _ s32 ⟨rfl, hD⟩
      replace hH := hH.back0 hD (Up.refl _ _ _)
      clear hD
      dsimp only [addC, setC, rmC, selC, getC] at hH
      try dsimp only [putL, setL, evL, getL]
      refine HL_want ?_ ?_
      · exact wantT (j := 3) (b := false) (t := 11) (c := !u30) rfl rfl rfl rfl hb31
      refine o_not rfl ?_
      try dsimp only [putL, setL, evL, getL]
      refine HL_cons rfl ?_
      refine o_pickF rfl hb31 ?_
      try dsimp only [putL, setL, evL, getL]
      refine HL_cons rfl ?_
      refine o_move ?_
      try dsimp only [putL, setL, evL, getL]
      rcases Bool.eq_false_or_eq_true (!u32) with hb33 | hb33
      · replace H := iteT hb33 H
        refine HL_skip ?_ ?_
        · exact wantF (j := 8) (b := false) (t := 16) (c := !u32) rfl rfl rfl rfl hb33
        try dsimp only [putL, setL, evL, getL]
        refine HL_skip ?_ ?_
        · exact wantF (j := 8) (b := false) (t := 16) (c := !u32) rfl rfl rfl rfl hb33
        try dsimp only [putL, setL, evL, getL]
        refine HL_skip ?_ ?_
        · exact wantF (j := 8) (b := false) (t := 16) (c := !u32) rfl rfl rfl rfl hb33
        try dsimp only [putL, setL, evL, getL]
        refine HL_cons rfl ?_
        refine o_pickT rfl hb33 ?_
        try dsimp only [putL, setL, evL, getL]
        refine HL_cons rfl ?_
        refine o_move ?_
        try dsimp only [putL, setL, evL, getL]
        refine HL_skip ?_ ?_
        · exact wantF (j := 13) (b := false) (t := 21) (c := true) rfl rfl rfl rfl rfl
        try dsimp only [putL, setL, evL, getL]
        refine HL_skip ?_ ?_
        · exact wantF (j := 13) (b := false) (t := 21) (c := true) rfl rfl rfl rfl rfl
        try dsimp only [putL, setL, evL, getL]
        refine HL_skip ?_ ?_
        · exact wantF (j := 13) (b := false) (t := 21) (c := true) rfl rfl rfl rfl rfl
        try dsimp only [putL, setL, evL, getL]
        refine HL_skip ?_ ?_
        · exact wantF (j := 13) (b := false) (t := 21) (c := true) rfl rfl rfl rfl rfl
        try dsimp only [putL, setL, evL, getL]
        refine HL_skip ?_ ?_
        · exact wantF (j := 13) (b := false) (t := 21) (c := true) rfl rfl rfl rfl rfl
        try dsimp only [putL, setL, evL, getL]
        refine HL_cons rfl ?_
        refine o_pickT rfl rfl ?_
        try dsimp only [putL, setL, evL, getL]
        refine HL_nil ?_
        exact hK22 _ _ ⟨true, H, rfl, hH⟩
      · replace H := iteF hb33 H
        refine HL_want ?_ ?_
        · exact wantT (j := 8) (b := false) (t := 16) (c := !u32) rfl rfl rfl rfl hb33
        refine o_move ?_
        try dsimp only [putL, setL, evL, getL]
        refine HL_want ?_ ?_
        · exact wantT (j := 8) (b := false) (t := 16) (c := !u32) rfl rfl rfl rfl hb33
        refine o_len rfl Try.underlying54 ?_
        try dsimp only [putL, setL, evL, getL]
        refine HL_want ?_ ?_
        · exact wantT (j := 8) (b := false) (t := 16) (c := !u32) rfl rfl rfl rfl hb33
        refine o_bin rfl rfl rfl ?_
        try dsimp only [putL, setL, evL, getL]
        refine HL_cons rfl ?_
        refine o_pickF rfl hb33 ?_
        try dsimp only [putL, setL, evL, getL]
        refine HL_cons rfl ?_
        refine o_move ?_
        try dsimp only [putL, setL, evL, getL]
        rcases Bool.eq_false_or_eq_true (decide ((p1.length : Int) > 200)) with hb34 | hb34
        · replace H := iteT hb34 H
          refine HL_skip ?_ ?_
          · exact wantF (j := 13) (b := false) (t := 21) (c := decide ((p1.length : Int) > 200)) rfl rfl rfl rfl hb34
          try dsimp only [putL, setL, evL, getL]
          refine HL_skip ?_ ?_
          · exact wantF (j := 13) (b := false) (t := 21) (c := decide ((p1.length : Int) > 200)) rfl rfl rfl rfl hb34
          try dsimp only [putL, setL, evL, getL]
          refine HL_skip ?_ ?_
          · exact wantF (j := 13) (b := false) (t := 21) (c := decide ((p1.length : Int) > 200)) rfl rfl rfl rfl hb34
          try dsimp only [putL, setL, evL, getL]
          refine HL_skip ?_ ?_
          · exact wantF (j := 13) (b := false) (t := 21) (c := decide ((p1.length : Int) > 200)) rfl rfl rfl rfl hb34
          try dsimp only [putL, setL, evL, getL]
          refine HL_skip ?_ ?_
          · exact wantF (j := 13) (b := false) (t := 21) (c := decide ((p1.length : Int) > 200)) rfl rfl rfl rfl hb34
          try dsimp only [putL, setL, evL, getL]
          refine HL_cons rfl ?_
          refine o_pickT rfl hb34 ?_
          try dsimp only [putL, setL, evL, getL]
          refine HL_nil ?_
          exact hK22 _ _ ⟨true, H, rfl, hH⟩
        · replace H := iteF hb34 H
          refine HL_want ?_ ?_
          · exact wantT (j := 13) (b := false) (t := 21) (c := decide ((p1.length : Int) > 200)) rfl rfl rfl rfl hb34
          refine o_load' rfl Try.underlying3 rfl (hH.hasv 0 rfl rfl) ?_
          try dsimp only [putL, setL, evL, getL]
          refine HL_want ?_ ?_
          · exact wantT (j := 13) (b := false) (t := 21) (c := decide ((p1.length : Int) > 200)) rfl rfl rfl rfl hb34
          refine o_move ?_
          try dsimp only [putL, setL, evL, getL]
          refine HL_want ?_ ?_
          · exact wantT (j := 13) (b := false) (t := 21) (c := decide ((p1.length : Int) > 200)) rfl rfl rfl rfl hb34
          refine o_len rfl Try.underlying57 ?_
          try dsimp only [putL, setL, evL, getL]
          replace H := headE H
          obtain ⟨u35, hu35, H⟩ := H
          refine HL_want ?_ ?_
          · exact wantT (j := 13) (b := false) (t := 21) (c := decide ((p1.length : Int) > 200)) rfl rfl rfl rfl hb34
          refine o_call (args := #[.int .i64 p2, .int .i64 (p0.length : Int)]) Try.func133 rfl rfl rfl (impl_isPlace.ok sb s32 no p2 (p0.length : Int) (Hp.own hH.bs) _ hu35) ?_
          rintro _ s35 ⟨rfl, hD⟩
          replace hH := hH.back0 hD (Up.refl _ _ _)
          clear hD
          dsimp only [addC, setC, rmC, selC, getC] at hH
          try dsimp only [putL, setL, evL, getL]
          refine HL_want ?_ ?_
          · exact wantT (j := 13) (b := false) (t := 21) (c := decide ((p1.length : Int) > 200)) rfl rfl rfl rfl hb34
          refine o_not rfl ?_
          try dsimp only [putL, setL, evL, getL]
          refine HL_cons rfl ?_
          refine o_pickF rfl hb34 ?_
          try dsimp only [putL, setL, evL, getL]
          refine HL_nil ?_
          exact hK22 _ _ ⟨!u35, H, rfl, hH⟩
  · rintro l' s36 ⟨x29, H, hl, hH⟩
    generalize getL l' 8 = j8, getL l' 9 = j9, getL l' 10 = j10, getL l' 11 = j11, getL l' 12 = j12, getL l' 13 = j13, getL l' 14 = j14, getL l' 15 = j15, getL l' 16 = j16, getL l' 17 = j17, getL l' 18 = j18, getL l' 19 = j19, getL l' 20 = j20, getL l' 21 = j21, getL l' 22 = j22, getL l' 23 = j23, getL l' 24 = j24, getL l' 25 = j25, getL l' 26 = j26 at hl
    subst hl
    replace H := hG22 _ H
    try dsimp only at H
    rcases Bool.eq_false_or_eq_true x29 with hb37 | hb37
    · replace H := iteT hb37 H
      refine HT_true (congrArg Value.bool hb37) ?_
      refine HT_seq_k ?_
      intro K38 hK38
      refine HT_region ?_
      refine HL_cons rfl ?_
      refine o_assign ?_
      try dsimp only [putL, setL, evL, getL]
      refine HL_cons rfl ?_
      refine o_assign ?_
      try dsimp only [putL, setL, evL, getL]
      refine HL_nil ?_
      refine hK38 _ _ ?_
      refine HT_ret ?_
      exact hQr _ _ [.slice none 0 0, .bool false] ⟨rfl, rfl, trivial⟩ (retH (fun r => impl_SpansOf.post sb s F0 r _ _) (show some _ = some r from H) ⟨none, 0, rfl, (hH.nil (K := KS138) OS138 138).sel [1] (by decide)⟩)
    · replace H := iteF hb37 H
      refine HT_false (congrArg Value.bool hb37) ?_
      refine HT_skip ?_
      refine hK21 _ _ ?_
      refine HT_seq_k ?_
      intro K39 hK39
      refine HT_region ?_
      refine HL_cons rfl ?_
      refine o_move ?_
      try dsimp only [putL, setL, evL, getL]
      replace H := headE H
      obtain ⟨u40, hu40, H⟩ := H
      refine HL_cons rfl ?_
      refine o_call (args := #[.slice A1p p1.length c1p]) Try.func135 rfl rfl rfl (slices_Clone_impl_Span_impl_Span.ok sb s36 no A1p c1p p1 HRp1 (Hp.own hH.bs) _ hu40) ?_
      rintro _ s40 ⟨A41, c41, rfl, hD⟩
      replace hH := hH.back0 hD (Up.refl _ _ _)
      clear hD
      dsimp only [addC, setC, rmC, selC, getC] at hH
      try dsimp only [putL, setL, evL, getL]
      refine HL_cons rfl ?_
      refine o_func rfl rfl ?_
      try dsimp only [putL, setL, evL, getL]
      replace H := headE H
      obtain ⟨u42, hu42, H⟩ := H
      obtain ⟨F1, hA, hB⟩ := hH.take [1, 0] (by decide)
      dsimp only [addC, setC, rmC, selC, getC] at hA
      refine HL_cons rfl ?_
      refine o_call (args := #[.slice A41 u40.length c41, .func (.func 136) #[] #[.pointer (some ⟨b2, 0, none⟩)]]) Try.func134 rfl rfl rfl (slices_DeleteFunc_impl_Span_impl_Span_impl_SpansOf_1.ok sb s40 F1 A41 c41 u40 b2 p2 hA _ hu42) ?_
      rintro _ s42 ⟨A43, c43, rfl, hD⟩
      replace hH := hB _ _ _ (Up.refl _ _ _) hD
      clear hD hA hB
      dsimp only [addC, setC, rmC, selC, getC] at hH
      try dsimp only [putL, setL, evL, getL]
      refine HL_cons rfl ?_
      refine o_assign ?_
      try dsimp only [putL, setL, evL, getL]
      refine HL_cons rfl ?_
      refine o_assign ?_
      try dsimp only [putL, setL, evL, getL]
      refine HL_nil ?_
      refine hK39 _ _ ?_
      refine HT_ret ?_
      exact hQr _ _ [.slice A43 u42.length c43, .bool true] ⟨rfl, rfl, trivial⟩ (retH (fun r => impl_SpansOf.post sb s F0 r _ _) (show some _ = some r from H) ⟨A43, c43, rfl, hH.sel [2] (by decide)⟩)
def laws_eqSpan.f (p0_0 : Int) (p0_1 : Int) (p0_2 : Int) (p1_0 : Int) (p1_1 : Int) (p1_2 : Int) : Option Bool := if (p0_0 != p1_0) = true then (some false) else (if (p0_1 != p1_1) = true then (some false) else (if (p0_2 != p1_2) = true then (some false) else (some true)))
def laws_eqSpan.post (sb s : St) (F0 : Fp) (r : Bool) : Value → St → Prop := fun v s' => v = .bool r ∧ Hp sb s F0 s' []
set_option maxRecDepth 100000 in
set_option maxHeartbeats 4000000 in
theorem laws_eqSpan.ok (sb s : St) (F0 : Fp) (p0_0 : Int) (p0_1 : Int) (p0_2 : Int) (p1_0 : Int) (p1_1 : Int) (p1_2 : Int) (hH : Hp sb s F0 s []) (r : Bool) (H : laws_eqSpan.f p0_0 p0_1 p0_2 p1_0 p1_1 p1_2 = some r) : GCall Try.prog 137 #[.agg #[.int .i64 p0_0, .int .i64 p0_1, .int .i64 p0_2], .agg #[.int .i64 p1_0, .int .i64 p1_1, .int .i64 p1_2]] s (laws_eqSpan.post sb s F0 r) := by
  refine GCall_ofk [.tmp 4] [.agg #[.int .i64 p0_0, .int .i64 p0_1, .int .i64 p0_2], .agg #[.int .i64 p1_0, .int .i64 p1_1, .int .i64 p1_2], undef, undef, undef, undef, undef, undef, undef, undef, undef, undef, undef, undef, undef, undef, undef, undef, undef, undef] Try.func137 rfl rfl rfl ?_
  intro w Q hQr hQn hQp
  replace H := topE H
  unfold laws_eqSpan.f at H
  refine HT_seq_k ?_
  intro K1 hK1
  refine HT_region ?_
  refine HL_cons rfl ?_
  refine o_boxH hH rfl ?_
  intro b2 s2 hH' hG
  replace hH : Hp sb s F0 s2 [Ck.ov b2 [.int .i64 p0_0, .int .i64 p0_1, .int .i64 p0_2] 138] := hH'
  clear hH' hG
  try dsimp only [putL, setL, evL, getL]
  refine HL_cons rfl ?_
  refine o_boxH hH rfl ?_
  intro b3 s3 hH' hG
  replace hH : Hp sb s F0 s3 [Ck.ov b2 [.int .i64 p0_0, .int .i64 p0_1, .int .i64 p0_2] 138, Ck.ov b3 [.int .i64 p1_0, .int .i64 p1_1, .int .i64 p1_2] 138] := hH'
  clear hH' hG
  try dsimp only [putL, setL, evL, getL]
  refine HL_cons rfl ?_
  refine o_assign ?_
  try dsimp only [putL, setL, evL, getL]
  refine HL_nil ?_
  refine hK1 _ _ ?_
  refine HT_seq_k ?_
  intro K4 hK4
  refine HT_seq_k ?_
  intro K5 hK5
  refine HT_region ?_
  refine HL_cons rfl ?_
  refine o_faddr' (ft := 3) (off := 0) rfl Try.underlying138 rfl tI3 (by decide) ?_
  try dsimp only [putL, setL, evL, getL]
  refine HL_cons rfl ?_
  refine o_load' rfl Try.underlying3 rfl (hH.hasv 0 rfl rfl) ?_
  try dsimp only [putL, setL, evL, getL]
  refine HL_cons rfl ?_
  refine o_faddr' (ft := 3) (off := 0) rfl Try.underlying138 rfl tI3 (by decide) ?_
  try dsimp only [putL, setL, evL, getL]
  refine HL_cons rfl ?_
  refine o_load' rfl Try.underlying3 rfl (hH.hasv 1 rfl rfl) ?_
  try dsimp only [putL, setL, evL, getL]
  refine HL_cons rfl ?_
  refine o_bin rfl rfl rfl ?_
  try dsimp only [putL, setL, evL, getL]
  refine HL_nil ?_
  refine hK5 _ _ ?_
  rcases Bool.eq_false_or_eq_true (p0_0 != p1_0) with hb6 | hb6
  · replace H := iteT hb6 H
    refine HT_true (congrArg Value.bool hb6) ?_
    refine HT_seq_k ?_
    intro K7 hK7
    refine HT_region ?_
    refine HL_cons rfl ?_
    refine o_assign ?_
    try dsimp only [putL, setL, evL, getL]
    refine HL_nil ?_
    refine hK7 _ _ ?_
    refine HT_ret ?_
    exact hQr _ _ [.bool false] ⟨rfl, trivial⟩ (retH (fun r => laws_eqSpan.post sb s F0 r _ _) (show some _ = some r from H) ⟨rfl, hH.sel [] (by decide)⟩)
  · replace H := iteF hb6 H
    refine HT_false (congrArg Value.bool hb6) ?_
    refine HT_skip ?_
    refine hK4 _ _ ?_
    refine HT_seq_k ?_
    intro K8 hK8
    refine HT_seq_k ?_
    intro K9 hK9
    refine HT_region ?_
    refine HL_cons rfl ?_
    refine o_faddr' (ft := 3) (off := 1) rfl Try.underlying138 rfl tI3 (by decide) ?_
    try dsimp only [putL, setL, evL, getL]
    refine HL_cons rfl ?_
    refine o_load' rfl Try.underlying3 rfl (hH.hasv 0 rfl rfl) ?_
    try dsimp only [putL, setL, evL, getL]
    refine HL_cons rfl ?_
    refine o_faddr' (ft := 3) (off := 1) rfl Try.underlying138 rfl tI3 (by decide) ?_
    try dsimp only [putL, setL, evL, getL]
    refine HL_cons rfl ?_
    refine o_load' rfl Try.underlying3 rfl (hH.hasv 1 rfl rfl) ?_
    try dsimp only [putL, setL, evL, getL]
    refine HL_cons rfl ?_
    refine o_bin rfl rfl rfl ?_
    try dsimp only [putL, setL, evL, getL]
    refine HL_nil ?_
    refine hK9 _ _ ?_
    rcases Bool.eq_false_or_eq_true (p0_1 != p1_1) with hb10 | hb10
    · replace H := iteT hb10 H
      refine HT_true (congrArg Value.bool hb10) ?_
      refine HT_seq_k ?_
      intro K11 hK11
      refine HT_region ?_
      refine HL_cons rfl ?_
      refine o_assign ?_
      try dsimp only [putL, setL, evL, getL]
      refine HL_nil ?_
      refine hK11 _ _ ?_
      refine HT_ret ?_
      exact hQr _ _ [.bool false] ⟨rfl, trivial⟩ (retH (fun r => laws_eqSpan.post sb s F0 r _ _) (show some _ = some r from H) ⟨rfl, hH.sel [] (by decide)⟩)
    · replace H := iteF hb10 H
      refine HT_false (congrArg Value.bool hb10) ?_
      refine HT_skip ?_
      refine hK8 _ _ ?_
      refine HT_seq_k ?_
      intro K12 hK12
      refine HT_seq_k ?_
      intro K13 hK13
      refine HT_region ?_
      refine HL_cons rfl ?_
      refine o_faddr' (ft := 3) (off := 2) rfl Try.underlying138 rfl tI3 (by decide) ?_
      try dsimp only [putL, setL, evL, getL]
      refine HL_cons rfl ?_
      refine o_load' rfl Try.underlying3 rfl (hH.hasv 0 rfl rfl) ?_
      try dsimp only [putL, setL, evL, getL]
      refine HL_cons rfl ?_
      refine o_faddr' (ft := 3) (off := 2) rfl Try.underlying138 rfl tI3 (by decide) ?_
      try dsimp only [putL, setL, evL, getL]
      refine HL_cons rfl ?_
      refine o_load' rfl Try.underlying3 rfl (hH.hasv 1 rfl rfl) ?_
      try dsimp only [putL, setL, evL, getL]
      refine HL_cons rfl ?_
      refine o_bin rfl rfl rfl ?_
      try dsimp only [putL, setL, evL, getL]
      refine HL_nil ?_
      refine hK13 _ _ ?_
      rcases Bool.eq_false_or_eq_true (p0_2 != p1_2) with hb14 | hb14
      · replace H := iteT hb14 H
        refine HT_true (congrArg Value.bool hb14) ?_
        refine HT_seq_k ?_
        intro K15 hK15
        refine HT_region ?_
        refine HL_cons rfl ?_
        refine o_assign ?_
        try dsimp only [putL, setL, evL, getL]
        refine HL_nil ?_
        refine hK15 _ _ ?_
        refine HT_ret ?_
        exact hQr _ _ [.bool false] ⟨rfl, trivial⟩ (retH (fun r => laws_eqSpan.post sb s F0 r _ _) (show some _ = some r from H) ⟨rfl, hH.sel [] (by decide)⟩)
      · replace H := iteF hb14 H
        refine HT_false (congrArg Value.bool hb14) ?_
        refine HT_skip ?_
        refine hK12 _ _ ?_
        refine HT_seq_k ?_
        intro K16 hK16
        refine HT_region ?_
        refine HL_cons rfl ?_
        refine o_assign ?_
        try dsimp only [putL, setL, evL, getL]
        refine HL_nil ?_
        refine hK16 _ _ ?_
        refine HT_ret ?_
        exact hQr _ _ [.bool true] ⟨rfl, trivial⟩ (retH (fun r => laws_eqSpan.post sb s F0 r _ _) (show some _ = some r from H) ⟨rfl, hH.sel [] (by decide)⟩)
def laws_eqSpanS.l1 (p0 : List ((Int) × (Int) × (Int))) (p1 : List ((Int) × (Int) × (Int))) : Nat → Int → Option (Lo Unit Bool)
  | 0, _ => none
  | kf + 1, x52 => if (decide (x52 < (p0.length : Int))) = true then ((rd? p0 x52).bind fun u70 => (rd? p1 x52).bind fun u71 => (laws_eqSpan.f u70.1 u70.2.1 u70.2.2 u71.1 u71.2.1 u71.2.2).bind fun u72 => if (!u72) = true then ((some false).bind fun z => some (Lo.ret z)) else (laws_eqSpanS.l1 p0 p1 kf (IntKind.i64.wrap (x52 + 1)))) else (some (Lo.go ()))
def laws_eqSpanS.f (p0 : List ((Int) × (Int) × (Int))) (p1 : List ((Int) × (Int) × (Int))) : Option Bool := if ((p0.length : Int) != (p1.length : Int)) = true then (some false) else ((laws_eqSpanS.l1 p0 p1 ((((p0.length : Int)) - (0)).toNat + 2) 0).bind fun (o : Lo Unit Bool) => match o with | .go () => (some true) | .ret z => some z)
def laws_eqSpanS.post (sb s : St) (F0 : Fp) (r : Bool) : Value → St → Prop := fun v s' => v = .bool r ∧ Hp sb s F0 s' []
set_option maxRecDepth 100000 in
set_option maxHeartbeats 4000000 in
theorem laws_eqSpanS.ok (sb s : St) (F0 : Fp) (A0p : Option Addr) (c0p : Nat) (p0 : List ((Int) × (Int) × (Int))) (A1p : Option Addr) (c1p : Nat) (p1 : List ((Int) × (Int) × (Int))) (HRp0 : Rd KS138 sb A0p c0p p0) (HRp1 : Rd KS138 sb A1p c1p p1) (hH : Hp sb s F0 s []) (r : Bool) (H : laws_eqSpanS.f p0 p1 = some r) : GCall Try.prog 43 #[.slice A0p p0.length c0p, .slice A1p p1.length c1p] s (laws_eqSpanS.post sb s F0 r) := by
  refine GCall_ofk [.tmp 4] [.slice A0p p0.length c0p, .slice A1p p1.length c1p, undef, undef, undef, undef, undef, undef, undef, undef, undef, undef, undef, undef, undef, undef, undef, undef, undef, undef, undef, undef, undef, undef, undef, undef, undef] Try.func43 rfl rfl rfl ?_
  intro w Q hQr hQn hQp
  replace H := topE H
  unfold laws_eqSpanS.f at H
  refine HT_seq_k ?_
  intro K1 hK1
  refine HT_region ?_
  refine HL_cons rfl ?_
  refine o_assign ?_
  try dsimp only [putL, setL, evL, getL]
  refine HL_nil ?_
  refine hK1 _ _ ?_
  refine HT_seq_k ?_
  intro K2 hK2
  refine HT_seq_k ?_
  intro K3 hK3
  refine HT_region ?_
  refine HL_cons rfl ?_
  refine o_move ?_
  try dsimp only [putL, setL, evL, getL]
  refine HL_cons rfl ?_
  refine o_len rfl Try.underlying54 ?_
  try dsimp only [putL, setL, evL, getL]
  refine HL_cons rfl ?_
  refine o_move ?_
  try dsimp only [putL, setL, evL, getL]
  refine HL_cons rfl ?_
  refine o_len rfl Try.underlying54 ?_
  try dsimp only [putL, setL, evL, getL]
  refine HL_cons rfl ?_
  refine o_bin rfl rfl rfl ?_
  try dsimp only [putL, setL, evL, getL]
  refine HL_nil ?_
  refine hK3 _ _ ?_
  rcases Bool.eq_false_or_eq_true ((p0.length : Int) != (p1.length : Int)) with hb4 | hb4
  · replace H := iteT hb4 H
    refine HT_true (congrArg Value.bool hb4) ?_
    refine HT_seq_k ?_
    intro K5 hK5
    refine HT_region ?_
    refine HL_cons rfl ?_
    refine o_assign ?_
    try dsimp only [putL, setL, evL, getL]
    refine HL_nil ?_
    refine hK5 _ _ ?_
    refine HT_ret ?_
    exact hQr _ _ [.bool false] ⟨rfl, trivial⟩ (retH (fun r => laws_eqSpanS.post sb s F0 r _ _) (show some _ = some r from H) ⟨rfl, hH⟩)
  · replace H := iteF hb4 H
    refine HT_false (congrArg Value.bool hb4) ?_
    refine HT_skip ?_
    refine hK2 _ _ ?_
    refine HT_seq_k ?_
    intro K6 hK6
    refine HT_seq_k ?_
    intro K7 hK7
    refine HT_region ?_
    refine HL_cons rfl ?_
    refine o_assign ?_
    try dsimp only [putL, setL, evL, getL]
    refine HL_nil ?_
    refine hK7 _ _ ?_
    refine joinH H fun G8 hG8 H => ?_
    refine HT_toK (fun l' s' => G8 (.go ()) = some r ∧ l' = [.slice A0p p0.length c0p, .slice A1p p1.length c1p, undef, undef, getL l' 4, getL l' 5, .slice A0p p0.length c0p, .int .i64 (p0.length : Int), .slice A1p p1.length c1p, .int .i64 (p1.length : Int), .bool ((p0.length : Int) != (p1.length : Int)), getL l' 11, getL l' 12, getL l' 13, getL l' 14, getL l' 15, getL l' 16, getL l' 17, getL l' 18, getL l' 19, getL l' 20, getL l' 21, getL l' 22, getL l' 23, getL l' 24, getL l' 25, getL l' 26] ∧ Hp sb s F0 s' []) ?_ ?_
    · intro K8 hK8
      refine HT_block ?_
      refine HT_loopK (fun kf l' s' => ∃ (x52 : Int), (laws_eqSpanS.l1 p0 p1 kf x52).bind G8 = some r ∧ l' = [.slice A0p p0.length c0p, .slice A1p p1.length c1p, undef, undef, getL l' 4, .int .i64 x52, .slice A0p p0.length c0p, .int .i64 (p0.length : Int), .slice A1p p1.length c1p, .int .i64 (p1.length : Int), .bool ((p0.length : Int) != (p1.length : Int)), getL l' 11, getL l' 12, getL l' 13, getL l' 14, getL l' 15, getL l' 16, getL l' 17, getL l' 18, getL l' 19, getL l' 20, getL l' 21, getL l' 22, getL l' 23, getL l' 24, getL l' 25, getL l' 26] ∧ Hp sb s F0 s' []) ((((p0.length : Int)) - (0)).toNat + 2) ⟨0, H, rfl, hH⟩ ?_
      rintro kf l' s64 ⟨x52, H, hl, hH⟩ K64 hK64
      generalize getL l' 4 = j4, getL l' 11 = j11, getL l' 12 = j12, getL l' 13 = j13, getL l' 14 = j14, getL l' 15 = j15, getL l' 16 = j16, getL l' 17 = j17, getL l' 18 = j18, getL l' 19 = j19, getL l' 20 = j20, getL l' 21 = j21, getL l' 22 = j22, getL l' 23 = j23, getL l' 24 = j24, getL l' 25 = j25, getL l' 26 = j26 at hl
      subst hl
      cases kf with
      | zero => simp [laws_eqSpanS.l1] at H
      | succ kf =>
        rw [laws_eqSpanS.l1] at H
        refine HT_seq_k ?_
        intro K65 hK65
        refine HT_seq_k ?_
        intro K66 hK66
        refine HT_region ?_
        refine HL_cons rfl ?_
        refine o_move ?_
        try dsimp only [putL, setL, evL, getL]
        refine HL_cons rfl ?_
        refine o_move ?_
        try dsimp only [putL, setL, evL, getL]
        refine HL_cons rfl ?_
        refine o_len rfl Try.underlying54 ?_
        try dsimp only [putL, setL, evL, getL]
        refine HL_cons rfl ?_
        refine o_bin rfl rfl rfl ?_
        try dsimp only [putL, setL, evL, getL]
        refine HL_nil ?_
        refine hK66 _ _ ?_
        rcases Bool.eq_false_or_eq_true (decide (x52 < (p0.length : Int))) with hb67 | hb67
        · replace H := iteT hb67 H
          refine HT_true (congrArg Value.bool hb67) ?_
          refine HT_skip ?_
          refine hK65 _ _ ?_
          refine HT_seq_k ?_
          intro K68 hK68
          refine HT_block ?_
          refine HT_seq_k ?_
          intro K69 hK69
          refine HX_draw hMix ?_
          refine HX_lim (R := fun _ => True) (k := 0) (fun s' => Gro s64 s') 11 ?_
          have hR := Gro.refl s64
          have hH0 := hH
          refine HK_readP 0 (v := .slice A0p p0.length c0p) rfl (by kernel_rfl) (fun c l s h => hQp c l s h) rfl (fun s' K hK => ?_) rfl rfl (fun _ => hR) ?_
          · refine o_move ?_
            exact hK
          try dsimp only [putL, setL, evL, getL]
          refine HK_readP 1 (v := .int .i64 x52) rfl (by kernel_rfl) (fun c l s h => hQp c l s h) rfl (fun s' K hK => ?_) rfl rfl (fun _ => hR) ?_
          · refine o_move ?_
            exact hK
          try dsimp only [putL, setL, evL, getL]
          replace H := headE H
          obtain ⟨u70, hu70, H⟩ := H
          obtain ⟨b70, o70, cs70, hr70, hh70, hel70⟩ := Rd.elb HRp0 hu70
          obtain ⟨_, _, rfl, rfl, ⟨_, _, rfl, rfl, rfl⟩⟩ := hr70
          refine HK_readP 2 (v := .pointer (some ⟨b70, o70, none⟩)) rfl (by kernel_rfl) (fun c l s h => hQp c l s h) rfl (fun s' K hK => ?_) rfl rfl (fun _ => hR) ?_
          · refine hel70 s' rfl rfl Try.underlying54 tI138 ?_
            exact hK
          try dsimp only [putL, setL, evL, getL]
          refine HK_read 3 (v := .agg #[.int .i64 u70.1, .int .i64 u70.2.1, .int .i64 u70.2.2]) rfl (by kernel_rfl) (fun c l s h => hQp c l s h) rfl (fun s' hR' K hK => ?_) rfl rfl hR ?_
          · refine o_loads' [.int .i64 u70.1, .int .i64 u70.2.1, .int .i64 u70.2.2] rfl Try.underlying138 rfl tI138 rfl (fun j v hj => (hh70 (hH0.bs.mono.trans hR'.mono)) j v hj) ?_
            exact hK
          try dsimp only [putL, setL, evL, getL]
          refine HK_readP 4 (v := .slice A1p p1.length c1p) rfl (by kernel_rfl) (fun c l s h => hQp c l s h) rfl (fun s' K hK => ?_) rfl rfl (fun _ => hR) ?_
          · refine o_move ?_
            exact hK
          try dsimp only [putL, setL, evL, getL]
          refine HK_readP 5 (v := .int .i64 x52) rfl (by kernel_rfl) (fun c l s h => hQp c l s h) rfl (fun s' K hK => ?_) rfl rfl (fun _ => hR) ?_
          · refine o_move ?_
            exact hK
          try dsimp only [putL, setL, evL, getL]
          replace H := headE H
          obtain ⟨u71, hu71, H⟩ := H
          obtain ⟨b71, o71, cs71, hr71, hh71, hel71⟩ := Rd.elb HRp1 hu71
          obtain ⟨_, _, rfl, rfl, ⟨_, _, rfl, rfl, rfl⟩⟩ := hr71
          refine HK_readP 6 (v := .pointer (some ⟨b71, o71, none⟩)) rfl (by kernel_rfl) (fun c l s h => hQp c l s h) rfl (fun s' K hK => ?_) rfl rfl (fun _ => hR) ?_
          · refine hel71 s' rfl rfl Try.underlying54 tI138 ?_
            exact hK
          try dsimp only [putL, setL, evL, getL]
          refine HK_read 7 (v := .agg #[.int .i64 u71.1, .int .i64 u71.2.1, .int .i64 u71.2.2]) rfl (by kernel_rfl) (fun c l s h => hQp c l s h) rfl (fun s' hR' K hK => ?_) rfl rfl hR ?_
          · refine o_loads' [.int .i64 u71.1, .int .i64 u71.2.1, .int .i64 u71.2.2] rfl Try.underlying138 rfl tI138 rfl (fun j v hj => (hh71 (hH0.bs.mono.trans hR'.mono)) j v hj) ?_
            exact hK
          try dsimp only [putL, setL, evL, getL]
          refine HK_more [8] (by kernel_rfl) rfl (fun _ => hR) ⟨⟨_, rfl, Or.inl ⟨rfl, ?_⟩⟩, trivial⟩
          replace H := headE H
          obtain ⟨u72, hu72, H⟩ := H
          skip
          refine o_call (args := #[.agg #[.int .i64 u70.1, .int .i64 u70.2.1, .int .i64 u70.2.2], .agg #[.int .i64 u71.1, .int .i64 u71.2.1, .int .i64 u71.2.2]]) Try.func137 rfl rfl rfl (laws_eqSpan.ok sb s64 no u70.1 u70.2.1 u70.2.2 u71.1 u71.2.1 u71.2.2 (Hp.own hH.bs) _ hu72) ?_
          rintro _ s72 ⟨rfl, hD⟩
          replace hR := hR.trans hD.gro
          replace hH := hH.back0 hD (Up.refl _ _ _)
          clear hD
          dsimp only [addC, setC, rmC, selC, getC] at hH
          try dsimp only [putL, setL, evL, getL]
          refine HK_readP 9 (v := .bool (!u72)) rfl (by kernel_rfl) (fun c l s h => hQp c l s h) rfl (fun s' K hK => ?_) rfl rfl (fun _ => hR) ?_
          · refine o_not rfl ?_
            exact hK
          try dsimp only [putL, setL, evL, getL]
          refine HK_done (fun _ => hR) (by kernel_rfl) ?_
          refine hK69 _ _ ?_
          rcases Bool.eq_false_or_eq_true (!u72) with hb73 | hb73
          · replace H := iteT hb73 H
            refine HT_true (congrArg Value.bool hb73) ?_
            refine HT_seq_k ?_
            intro K74 hK74
            refine HT_region ?_
            refine HL_cons rfl ?_
            refine o_assign ?_
            try dsimp only [putL, setL, evL, getL]
            refine HL_nil ?_
            refine hK74 _ _ ?_
            refine HT_ret ?_
            replace H := escH (fun z hz => hG8 _ hz) H
            exact hQr _ _ [.bool false] ⟨rfl, trivial⟩ (retH (fun r => laws_eqSpanS.post sb s F0 r _ _) (show some _ = some r from H) ⟨rfl, hH⟩)
          · replace H := iteF hb73 H
            refine HT_false (congrArg Value.bool hb73) ?_
            refine HT_skip ?_
            refine hK68 _ _ ?_
            refine HT_region ?_
            refine HL_cons rfl ?_
            refine o_move ?_
            try dsimp only [putL, setL, evL, getL]
            refine HL_cons rfl ?_
            refine o_bin rfl rfl rfl ?_
            try dsimp only [putL, setL, evL, getL]
            refine HL_cons rfl ?_
            refine o_assign ?_
            try dsimp only [putL, setL, evL, getL]
            refine HL_nil ?_
            exact hK64 _ _ ⟨kf, Nat.lt_succ_self kf, IntKind.i64.wrap (x52 + 1), H, rfl, hH⟩
        · replace H := iteF hb67 H
          refine HT_false (congrArg Value.bool hb67) ?_
          refine HT_exit ?_
          exact hK8 _ _ ⟨H, rfl, hH⟩
    · rintro l' s75 ⟨H, hl, hH⟩
      generalize getL l' 4 = j4, getL l' 5 = j5, getL l' 11 = j11, getL l' 12 = j12, getL l' 13 = j13, getL l' 14 = j14, getL l' 15 = j15, getL l' 16 = j16, getL l' 17 = j17, getL l' 18 = j18, getL l' 19 = j19, getL l' 20 = j20, getL l' 21 = j21, getL l' 22 = j22, getL l' 23 = j23, getL l' 24 = j24, getL l' 25 = j25, getL l' 26 = j26 at hl
      subst hl
      replace H := hG8 _ H
      try dsimp only at H
      refine hK6 _ _ ?_
      refine HT_seq_k ?_
      intro K76 hK76
      refine HT_region ?_
      refine HL_cons rfl ?_
      refine o_assign ?_
      try dsimp only [putL, setL, evL, getL]
      refine HL_nil ?_
      refine hK76 _ _ ?_
      refine HT_ret ?_
      exact hQr _ _ [.bool true] ⟨rfl, trivial⟩ (retH (fun r => laws_eqSpanS.post sb s F0 r _ _) (show some _ = some r from H) ⟨rfl, hH⟩)
def laws_eqIntS.l1 (p0 : List (Int)) (p1 : List (Int)) : Nat → Int → Option (Lo Unit Bool)
  | 0, _ => none
  | kf + 1, x48 => if (decide (x48 < (p0.length : Int))) = true then ((rd? p0 x48).bind fun u65 => (rd? p1 x48).bind fun u66 => if (u65 != u66) = true then ((some false).bind fun z => some (Lo.ret z)) else (laws_eqIntS.l1 p0 p1 kf (IntKind.i64.wrap (x48 + 1)))) else (some (Lo.go ()))
def laws_eqIntS.f (p0 : List (Int)) (p1 : List (Int)) : Option Bool := if ((p0.length : Int) != (p1.length : Int)) = true then (some false) else ((laws_eqIntS.l1 p0 p1 ((((p0.length : Int)) - (0)).toNat + 2) 0).bind fun (o : Lo Unit Bool) => match o with | .go () => (some true) | .ret z => some z)
def laws_eqIntS.post (sb s : St) (F0 : Fp) (r : Bool) : Value → St → Prop := fun v s' => v = .bool r ∧ Hp sb s F0 s' []
set_option maxRecDepth 100000 in
set_option maxHeartbeats 4000000 in
theorem laws_eqIntS.ok (sb s : St) (F0 : Fp) (A0p : Option Addr) (c0p : Nat) (p0 : List (Int)) (A1p : Option Addr) (c1p : Nat) (p1 : List (Int)) (HRp0 : Rd KI sb A0p c0p p0) (HRp1 : Rd KI sb A1p c1p p1) (hH : Hp sb s F0 s []) (r : Bool) (H : laws_eqIntS.f p0 p1 = some r) : GCall Try.prog 63 #[.slice A0p p0.length c0p, .slice A1p p1.length c1p] s (laws_eqIntS.post sb s F0 r) := by
  refine GCall_ofk [.tmp 4] [.slice A0p p0.length c0p, .slice A1p p1.length c1p, undef, undef, undef, undef, undef, undef, undef, undef, undef, undef, undef, undef, undef, undef, undef, undef, undef, undef, undef, undef, undef, undef, undef, undef] Try.func63 rfl rfl rfl ?_
  intro w Q hQr hQn hQp
  replace H := topE H
  unfold laws_eqIntS.f at H
  refine HT_seq_k ?_
  intro K1 hK1
  refine HT_region ?_
  refine HL_cons rfl ?_
  refine o_assign ?_
  try dsimp only [putL, setL, evL, getL]
  refine HL_nil ?_
  refine hK1 _ _ ?_
  refine HT_seq_k ?_
  intro K2 hK2
  refine HT_seq_k ?_
  intro K3 hK3
  refine HT_region ?_
  refine HL_cons rfl ?_
  refine o_move ?_
  try dsimp only [putL, setL, evL, getL]
  refine HL_cons rfl ?_
  refine o_len rfl Try.underlying24 ?_
  try dsimp only [putL, setL, evL, getL]
  refine HL_cons rfl ?_
  refine o_move ?_
  try dsimp only [putL, setL, evL, getL]
  refine HL_cons rfl ?_
  refine o_len rfl Try.underlying24 ?_
  try dsimp only [putL, setL, evL, getL]
  refine HL_cons rfl ?_
  refine o_bin rfl rfl rfl ?_
  try dsimp only [putL, setL, evL, getL]
  refine HL_nil ?_
  refine hK3 _ _ ?_
  rcases Bool.eq_false_or_eq_true ((p0.length : Int) != (p1.length : Int)) with hb4 | hb4
  · replace H := iteT hb4 H
    refine HT_true (congrArg Value.bool hb4) ?_
    refine HT_seq_k ?_
    intro K5 hK5
    refine HT_region ?_
    refine HL_cons rfl ?_
    refine o_assign ?_
    try dsimp only [putL, setL, evL, getL]
    refine HL_nil ?_
    refine hK5 _ _ ?_
    refine HT_ret ?_
    exact hQr _ _ [.bool false] ⟨rfl, trivial⟩ (retH (fun r => laws_eqIntS.post sb s F0 r _ _) (show some _ = some r from H) ⟨rfl, hH⟩)
  · replace H := iteF hb4 H
    refine HT_false (congrArg Value.bool hb4) ?_
    refine HT_skip ?_
    refine hK2 _ _ ?_
    refine HT_seq_k ?_
    intro K6 hK6
    refine HT_seq_k ?_
    intro K7 hK7
    refine HT_region ?_
    refine HL_cons rfl ?_
    refine o_assign ?_
    try dsimp only [putL, setL, evL, getL]
    refine HL_nil ?_
    refine hK7 _ _ ?_
    refine joinH H fun G8 hG8 H => ?_
    refine HT_toK (fun l' s' => G8 (.go ()) = some r ∧ l' = [.slice A0p p0.length c0p, .slice A1p p1.length c1p, undef, undef, getL l' 4, getL l' 5, .slice A0p p0.length c0p, .int .i64 (p0.length : Int), .slice A1p p1.length c1p, .int .i64 (p1.length : Int), .bool ((p0.length : Int) != (p1.length : Int)), getL l' 11, getL l' 12, getL l' 13, getL l' 14, getL l' 15, getL l' 16, getL l' 17, getL l' 18, getL l' 19, getL l' 20, getL l' 21, getL l' 22, getL l' 23, getL l' 24, getL l' 25] ∧ Hp sb s F0 s' []) ?_ ?_
    · intro K8 hK8
      refine HT_block ?_
      refine HT_loopK (fun kf l' s' => ∃ (x48 : Int), (laws_eqIntS.l1 p0 p1 kf x48).bind G8 = some r ∧ l' = [.slice A0p p0.length c0p, .slice A1p p1.length c1p, undef, undef, getL l' 4, .int .i64 x48, .slice A0p p0.length c0p, .int .i64 (p0.length : Int), .slice A1p p1.length c1p, .int .i64 (p1.length : Int), .bool ((p0.length : Int) != (p1.length : Int)), getL l' 11, getL l' 12, getL l' 13, getL l' 14, getL l' 15, getL l' 16, getL l' 17, getL l' 18, getL l' 19, getL l' 20, getL l' 21, getL l' 22, getL l' 23, getL l' 24, getL l' 25] ∧ Hp sb s F0 s' []) ((((p0.length : Int)) - (0)).toNat + 2) ⟨0, H, rfl, hH⟩ ?_
      rintro kf l' s59 ⟨x48, H, hl, hH⟩ K59 hK59
      generalize getL l' 4 = j4, getL l' 11 = j11, getL l' 12 = j12, getL l' 13 = j13, getL l' 14 = j14, getL l' 15 = j15, getL l' 16 = j16, getL l' 17 = j17, getL l' 18 = j18, getL l' 19 = j19, getL l' 20 = j20, getL l' 21 = j21, getL l' 22 = j22, getL l' 23 = j23, getL l' 24 = j24, getL l' 25 = j25 at hl
      subst hl
      cases kf with
      | zero => simp [laws_eqIntS.l1] at H
      | succ kf =>
        rw [laws_eqIntS.l1] at H
        refine HT_seq_k ?_
        intro K60 hK60
        refine HT_seq_k ?_
        intro K61 hK61
        refine HT_region ?_
        refine HL_cons rfl ?_
        refine o_move ?_
        try dsimp only [putL, setL, evL, getL]
        refine HL_cons rfl ?_
        refine o_move ?_
        try dsimp only [putL, setL, evL, getL]
        refine HL_cons rfl ?_
        refine o_len rfl Try.underlying24 ?_
        try dsimp only [putL, setL, evL, getL]
        refine HL_cons rfl ?_
        refine o_bin rfl rfl rfl ?_
        try dsimp only [putL, setL, evL, getL]
        refine HL_nil ?_
        refine hK61 _ _ ?_
        rcases Bool.eq_false_or_eq_true (decide (x48 < (p0.length : Int))) with hb62 | hb62
        · replace H := iteT hb62 H
          refine HT_true (congrArg Value.bool hb62) ?_
          refine HT_skip ?_
          refine hK60 _ _ ?_
          refine HT_seq_k ?_
          intro K63 hK63
          refine HT_block ?_
          refine HT_seq_k ?_
          intro K64 hK64
          refine HX_draw hMix ?_
          refine HX_lim (R := fun _ => True) (k := 0) (fun s' => Gro s59 s') 10 ?_
          have hR := Gro.refl s59
          have hH0 := hH
          refine HK_readP 0 (v := .slice A0p p0.length c0p) rfl (by kernel_rfl) (fun c l s h => hQp c l s h) rfl (fun s' K hK => ?_) rfl rfl (fun _ => hR) ?_
          · refine o_move ?_
            exact hK
          try dsimp only [putL, setL, evL, getL]
          refine HK_readP 1 (v := .int .i64 x48) rfl (by kernel_rfl) (fun c l s h => hQp c l s h) rfl (fun s' K hK => ?_) rfl rfl (fun _ => hR) ?_
          · refine o_move ?_
            exact hK
          try dsimp only [putL, setL, evL, getL]
          replace H := headE H
          obtain ⟨u65, hu65, H⟩ := H
          obtain ⟨b65, o65, cs65, hr65, hh65, hel65⟩ := Rd.elb HRp0 hu65
          obtain rfl := hr65
          refine HK_readP 2 (v := .pointer (some ⟨b65, o65, none⟩)) rfl (by kernel_rfl) (fun c l s h => hQp c l s h) rfl (fun s' K hK => ?_) rfl rfl (fun _ => hR) ?_
          · refine hel65 s' rfl rfl Try.underlying24 tI3 ?_
            exact hK
          try dsimp only [putL, setL, evL, getL]
          refine HK_read 3 (v := .int .i64 u65) rfl (by kernel_rfl) (fun c l s h => hQp c l s h) rfl (fun s' hR' K hK => ?_) rfl rfl hR ?_
          · refine o_load' rfl Try.underlying3 rfl ((hh65 (hH0.bs.mono.trans hR'.mono)) 0 _ rfl) ?_
            exact hK
          try dsimp only [putL, setL, evL, getL]
          refine HK_readP 4 (v := .slice A1p p1.length c1p) rfl (by kernel_rfl) (fun c l s h => hQp c l s h) rfl (fun s' K hK => ?_) rfl rfl (fun _ => hR) ?_
          · refine o_move ?_
            exact hK
          try dsimp only [putL, setL, evL, getL]
          refine HK_readP 5 (v := .int .i64 x48) rfl (by kernel_rfl) (fun c l s h => hQp c l s h) rfl (fun s' K hK => ?_) rfl rfl (fun _ => hR) ?_
          · refine o_move ?_
            exact hK
          try dsimp only [putL, setL, evL, getL]
          replace H := headE H
          obtain ⟨u66, hu66, H⟩ := H
          obtain ⟨b66, o66, cs66, hr66, hh66, hel66⟩ := Rd.elb HRp1 hu66
          obtain rfl := hr66
          refine HK_readP 6 (v := .pointer (some ⟨b66, o66, none⟩)) rfl (by kernel_rfl) (fun c l s h => hQp c l s h) rfl (fun s' K hK => ?_) rfl rfl (fun _ => hR) ?_
          · refine hel66 s' rfl rfl Try.underlying24 tI3 ?_
            exact hK
          try dsimp only [putL, setL, evL, getL]
          refine HK_read 7 (v := .int .i64 u66) rfl (by kernel_rfl) (fun c l s h => hQp c l s h) rfl (fun s' hR' K hK => ?_) rfl rfl hR ?_
          · refine o_load' rfl Try.underlying3 rfl ((hh66 (hH0.bs.mono.trans hR'.mono)) 0 _ rfl) ?_
            exact hK
          try dsimp only [putL, setL, evL, getL]
          refine HK_readP 8 (v := .bool (u65 != u66)) rfl (by kernel_rfl) (fun c l s h => hQp c l s h) rfl (fun s' K hK => ?_) rfl rfl (fun _ => hR) ?_
          · refine o_bin rfl rfl rfl ?_
            exact hK
          try dsimp only [putL, setL, evL, getL]
          refine HK_done (fun _ => hR) (by kernel_rfl) ?_
          refine hK64 _ _ ?_
          rcases Bool.eq_false_or_eq_true (u65 != u66) with hb67 | hb67
          · replace H := iteT hb67 H
            refine HT_true (congrArg Value.bool hb67) ?_
            refine HT_seq_k ?_
            intro K68 hK68
            refine HT_region ?_
            refine HL_cons rfl ?_
            refine o_assign ?_
            try dsimp only [putL, setL, evL, getL]
            refine HL_nil ?_
            refine hK68 _ _ ?_
            refine HT_ret ?_
            replace H := escH (fun z hz => hG8 _ hz) H
            exact hQr _ _ [.bool false] ⟨rfl, trivial⟩ (retH (fun r => laws_eqIntS.post sb s F0 r _ _) (show some _ = some r from H) ⟨rfl, hH⟩)
          · replace H := iteF hb67 H
            refine HT_false (congrArg Value.bool hb67) ?_
            refine HT_skip ?_
            refine hK63 _ _ ?_
            refine HT_region ?_
            refine HL_cons rfl ?_
            refine o_move ?_
            try dsimp only [putL, setL, evL, getL]
            refine HL_cons rfl ?_
            refine o_bin rfl rfl rfl ?_
            try dsimp only [putL, setL, evL, getL]
            refine HL_cons rfl ?_
            refine o_assign ?_
            try dsimp only [putL, setL, evL, getL]
            refine HL_nil ?_
            exact hK59 _ _ ⟨kf, Nat.lt_succ_self kf, IntKind.i64.wrap (x48 + 1), H, rfl, hH⟩
        · replace H := iteF hb62 H
          refine HT_false (congrArg Value.bool hb62) ?_
          refine HT_exit ?_
          exact hK8 _ _ ⟨H, rfl, hH⟩
    · rintro l' s69 ⟨H, hl, hH⟩
      generalize getL l' 4 = j4, getL l' 5 = j5, getL l' 11 = j11, getL l' 12 = j12, getL l' 13 = j13, getL l' 14 = j14, getL l' 15 = j15, getL l' 16 = j16, getL l' 17 = j17, getL l' 18 = j18, getL l' 19 = j19, getL l' 20 = j20, getL l' 21 = j21, getL l' 22 = j22, getL l' 23 = j23, getL l' 24 = j24, getL l' 25 = j25 at hl
      subst hl
      replace H := hG8 _ H
      try dsimp only at H
      refine hK6 _ _ ?_
      refine HT_seq_k ?_
      intro K70 hK70
      refine HT_region ?_
      refine HL_cons rfl ?_
      refine o_assign ?_
      try dsimp only [putL, setL, evL, getL]
      refine HL_nil ?_
      refine hK70 _ _ ?_
      refine HT_ret ?_
      exact hQr _ _ [.bool true] ⟨rfl, trivial⟩ (retH (fun r => laws_eqIntS.post sb s F0 r _ _) (show some _ = some r from H) ⟨rfl, hH⟩)
def laws_eqRe.f (p0_0 : Int) (p0_1 : List (Int)) (p1_0 : Int) (p1_1 : List (Int)) : Option Bool := if (p0_0 != p1_0) = true then (some false) else ((laws_eqIntS.f p0_1 p1_1).bind fun u10 => if (!u10) = true then (some false) else (some true))
def laws_eqRe.post (sb s : St) (F0 : Fp) (r : Bool) : Value → St → Prop := fun v s' => v = .bool r ∧ Hp sb s F0 s' []
set_option maxRecDepth 100000 in
set_option maxHeartbeats 4000000 in
theorem laws_eqRe.ok (sb s : St) (F0 : Fp) (p0_0 : Int) (A0_1p : Option Addr) (c0_1p : Nat) (p0_1 : List (Int)) (p1_0 : Int) (A1_1p : Option Addr) (c1_1p : Nat) (p1_1 : List (Int)) (HRp0_1 : Rd KI sb A0_1p c0_1p p0_1) (HRp1_1 : Rd KI sb A1_1p c1_1p p1_1) (hH : Hp sb s F0 s []) (r : Bool) (H : laws_eqRe.f p0_0 p0_1 p1_0 p1_1 = some r) : GCall Try.prog 138 #[.agg #[.int .i64 p0_0, .slice A0_1p p0_1.length c0_1p], .agg #[.int .i64 p1_0, .slice A1_1p p1_1.length c1_1p]] s (laws_eqRe.post sb s F0 r) := by
  refine GCall_ofk [.tmp 4] [.agg #[.int .i64 p0_0, .slice A0_1p p0_1.length c0_1p], .agg #[.int .i64 p1_0, .slice A1_1p p1_1.length c1_1p], undef, undef, undef, undef, undef, undef, undef, undef, undef, undef, undef, undef, undef, undef] Try.func138 rfl rfl rfl ?_
  intro w Q hQr hQn hQp
  replace H := topE H
  unfold laws_eqRe.f at H
  refine HT_seq_k ?_
  intro K1 hK1
  refine HT_region ?_
  refine HL_cons rfl ?_
  refine o_boxH hH rfl ?_
  intro b2 s2 hH' hG
  replace hH : Hp sb s F0 s2 [Ck.ov b2 [.int .i64 p0_0, .slice A0_1p p0_1.length c0_1p] 139] := hH'
  clear hH' hG
  try dsimp only [putL, setL, evL, getL]
  refine HL_cons rfl ?_
  refine o_boxH hH rfl ?_
  intro b3 s3 hH' hG
  replace hH : Hp sb s F0 s3 [Ck.ov b2 [.int .i64 p0_0, .slice A0_1p p0_1.length c0_1p] 139, Ck.ov b3 [.int .i64 p1_0, .slice A1_1p p1_1.length c1_1p] 139] := hH'
  clear hH' hG
  try dsimp only [putL, setL, evL, getL]
  refine HL_cons rfl ?_
  refine o_assign ?_
  try dsimp only [putL, setL, evL, getL]
  refine HL_nil ?_
  refine hK1 _ _ ?_
  refine HT_seq_k ?_
  intro K4 hK4
  refine HT_seq_k ?_
  intro K5 hK5
  refine HT_region ?_
  refine HL_cons rfl ?_
  refine o_faddr' (ft := 3) (off := 0) rfl Try.underlying139 rfl tI3 (by decide) ?_
  try dsimp only [putL, setL, evL, getL]
  refine HL_cons rfl ?_
  refine o_load' rfl Try.underlying3 rfl (hH.hasv 0 rfl rfl) ?_
  try dsimp only [putL, setL, evL, getL]
  refine HL_cons rfl ?_
  refine o_faddr' (ft := 3) (off := 0) rfl Try.underlying139 rfl tI3 (by decide) ?_
  try dsimp only [putL, setL, evL, getL]
  refine HL_cons rfl ?_
  refine o_load' rfl Try.underlying3 rfl (hH.hasv 1 rfl rfl) ?_
  try dsimp only [putL, setL, evL, getL]
  refine HL_cons rfl ?_
  refine o_bin rfl rfl rfl ?_
  try dsimp only [putL, setL, evL, getL]
  refine HL_nil ?_
  refine hK5 _ _ ?_
  rcases Bool.eq_false_or_eq_true (p0_0 != p1_0) with hb6 | hb6
  · replace H := iteT hb6 H
    refine HT_true (congrArg Value.bool hb6) ?_
    refine HT_seq_k ?_
    intro K7 hK7
    refine HT_region ?_
    refine HL_cons rfl ?_
    refine o_assign ?_
    try dsimp only [putL, setL, evL, getL]
    refine HL_nil ?_
    refine hK7 _ _ ?_
    refine HT_ret ?_
    exact hQr _ _ [.bool false] ⟨rfl, trivial⟩ (retH (fun r => laws_eqRe.post sb s F0 r _ _) (show some _ = some r from H) ⟨rfl, hH.sel [] (by decide)⟩)
  · replace H := iteF hb6 H
    refine HT_false (congrArg Value.bool hb6) ?_
    refine HT_skip ?_
    refine hK4 _ _ ?_
    refine HT_seq_k ?_
    intro K8 hK8
    refine HT_seq_k ?_
    intro K9 hK9
    refine HT_region ?_
    refine HL_cons rfl ?_
    refine o_faddr' (ft := 24) (off := 1) rfl Try.underlying139 rfl tI24 (by decide) ?_
    try dsimp only [putL, setL, evL, getL]
    refine HL_cons rfl ?_
    refine o_load' rfl Try.underlying24 rfl (hH.hasv 0 rfl rfl) ?_
    try dsimp only [putL, setL, evL, getL]
    refine HL_cons rfl ?_
    refine o_faddr' (ft := 24) (off := 1) rfl Try.underlying139 rfl tI24 (by decide) ?_
    try dsimp only [putL, setL, evL, getL]
    refine HL_cons rfl ?_
    refine o_load' rfl Try.underlying24 rfl (hH.hasv 1 rfl rfl) ?_
    try dsimp only [putL, setL, evL, getL]
    replace H := headE H
    obtain ⟨u10, hu10, H⟩ := H
    refine HL_cons rfl ?_
    refine o_call (args := #[.slice A0_1p p0_1.length c0_1p, .slice A1_1p p1_1.length c1_1p]) Try.func63 rfl rfl rfl (laws_eqIntS.ok sb s3 no A0_1p c0_1p p0_1 A1_1p c1_1p p1_1 HRp0_1 HRp1_1 (Hp.own hH.bs) _ hu10) ?_
    rintro _ s10 ⟨rfl, hD⟩
    replace hH := hH.back0 hD (Up.refl _ _ _)
    clear hD
    dsimp only [addC, setC, rmC, selC, getC] at hH
    try dsimp only [putL, setL, evL, getL]
    refine HL_cons rfl ?_
    refine o_not rfl ?_
    try dsimp only [putL, setL, evL, getL]
    refine HL_nil ?_
    refine hK9 _ _ ?_
    rcases Bool.eq_false_or_eq_true (!u10) with hb11 | hb11
    · replace H := iteT hb11 H
      refine HT_true (congrArg Value.bool hb11) ?_
      refine HT_seq_k ?_
      intro K12 hK12
      refine HT_region ?_
      refine HL_cons rfl ?_
      refine o_assign ?_
      try dsimp only [putL, setL, evL, getL]
      refine HL_nil ?_
      refine hK12 _ _ ?_
      refine HT_ret ?_
      exact hQr _ _ [.bool false] ⟨rfl, trivial⟩ (retH (fun r => laws_eqRe.post sb s F0 r _ _) (show some _ = some r from H) ⟨rfl, hH.sel [] (by decide)⟩)
    · replace H := iteF hb11 H
      refine HT_false (congrArg Value.bool hb11) ?_
      refine HT_skip ?_
      refine hK8 _ _ ?_
      refine HT_seq_k ?_
      intro K13 hK13
      refine HT_region ?_
      refine HL_cons rfl ?_
      refine o_assign ?_
      try dsimp only [putL, setL, evL, getL]
      refine HL_nil ?_
      refine hK13 _ _ ?_
      refine HT_ret ?_
      exact hQr _ _ [.bool true] ⟨rfl, trivial⟩ (retH (fun r => laws_eqRe.post sb s F0 r _ _) (show some _ = some r from H) ⟨rfl, hH.sel [] (by decide)⟩)
def laws_eqReS.l1 (p0 : List ((Int) × (List (Int)))) (p1 : List ((Int) × (List (Int)))) : Nat → Int → Option (Lo Unit Bool)
  | 0, _ => none
  | kf + 1, x60 => if (decide (x60 < (p0.length : Int))) = true then ((rd? p0 x60).bind fun u80 => (rd? p1 x60).bind fun u82 => (laws_eqRe.f u80.1 u80.2 u82.1 u82.2).bind fun u84 => if (!u84) = true then ((some false).bind fun z => some (Lo.ret z)) else (laws_eqReS.l1 p0 p1 kf (IntKind.i64.wrap (x60 + 1)))) else (some (Lo.go ()))
def laws_eqReS.f (p0 : List ((Int) × (List (Int)))) (p1 : List ((Int) × (List (Int)))) : Option Bool := if ((p0.length : Int) != (p1.length : Int)) = true then (some false) else ((laws_eqReS.l1 p0 p1 ((((p0.length : Int)) - (0)).toNat + 2) 0).bind fun (o : Lo Unit Bool) => match o with | .go () => (some true) | .ret z => some z)
def laws_eqReS.post (sb s : St) (F0 : Fp) (r : Bool) : Value → St → Prop := fun v s' => v = .bool r ∧ Hp sb s F0 s' []
set_option maxRecDepth 100000 in
set_option maxHeartbeats 4000000 in
theorem laws_eqReS.ok (sb s : St) (F0 : Fp) (A0p : Option Addr) (c0p : Nat) (p0 : List ((Int) × (List (Int)))) (A1p : Option Addr) (c1p : Nat) (p1 : List ((Int) × (List (Int)))) (HRp0 : Rd KS139 sb A0p c0p p0) (HRp1 : Rd KS139 sb A1p c1p p1) (hH : Hp sb s F0 s []) (r : Bool) (H : laws_eqReS.f p0 p1 = some r) : GCall Try.prog 44 #[.slice A0p p0.length c0p, .slice A1p p1.length c1p] s (laws_eqReS.post sb s F0 r) := by
  refine GCall_ofk [.tmp 4] [.slice A0p p0.length c0p, .slice A1p p1.length c1p, undef, undef, undef, undef, undef, undef, undef, undef, undef, undef, undef, undef, undef, undef, undef, undef, undef, undef, undef, undef, undef, undef, undef, undef, undef] Try.func44 rfl rfl rfl ?_
  intro w Q hQr hQn hQp
  replace H := topE H
  unfold laws_eqReS.f at H
  refine HT_seq_k ?_
  intro K1 hK1
  refine HT_region ?_
  refine HL_cons rfl ?_
  refine o_assign ?_
  try dsimp only [putL, setL, evL, getL]
  refine HL_nil ?_
  refine hK1 _ _ ?_
  refine HT_seq_k ?_
  intro K2 hK2
  refine HT_seq_k ?_
  intro K3 hK3
  refine HT_region ?_
  refine HL_cons rfl ?_
  refine o_move ?_
  try dsimp only [putL, setL, evL, getL]
  refine HL_cons rfl ?_
  refine o_len rfl Try.underlying57 ?_
  try dsimp only [putL, setL, evL, getL]
  refine HL_cons rfl ?_
  refine o_move ?_
  try dsimp only [putL, setL, evL, getL]
  refine HL_cons rfl ?_
  refine o_len rfl Try.underlying57 ?_
  try dsimp only [putL, setL, evL, getL]
  refine HL_cons rfl ?_
  refine o_bin rfl rfl rfl ?_
  try dsimp only [putL, setL, evL, getL]
  refine HL_nil ?_
  refine hK3 _ _ ?_
  rcases Bool.eq_false_or_eq_true ((p0.length : Int) != (p1.length : Int)) with hb4 | hb4
  · replace H := iteT hb4 H
    refine HT_true (congrArg Value.bool hb4) ?_
    refine HT_seq_k ?_
    intro K5 hK5
    refine HT_region ?_
    refine HL_cons rfl ?_
    refine o_assign ?_
    try dsimp only [putL, setL, evL, getL]
    refine HL_nil ?_
    refine hK5 _ _ ?_
    refine HT_ret ?_
    exact hQr _ _ [.bool false] ⟨rfl, trivial⟩ (retH (fun r => laws_eqReS.post sb s F0 r _ _) (show some _ = some r from H) ⟨rfl, hH⟩)
  · replace H := iteF hb4 H
    refine HT_false (congrArg Value.bool hb4) ?_
    refine HT_skip ?_
    refine hK2 _ _ ?_
    refine HT_seq_k ?_
    intro K6 hK6
    refine HT_seq_k ?_
    intro K7 hK7
    refine HT_region ?_
    refine HL_cons rfl ?_
    refine o_assign ?_
    try dsimp only [putL, setL, evL, getL]
    refine HL_nil ?_
    refine hK7 _ _ ?_
    refine joinH H fun G8 hG8 H => ?_
    refine HT_toK (fun l' s' => G8 (.go ()) = some r ∧ l' = [.slice A0p p0.length c0p, .slice A1p p1.length c1p, undef, undef, getL l' 4, getL l' 5, .slice A0p p0.length c0p, .int .i64 (p0.length : Int), .slice A1p p1.length c1p, .int .i64 (p1.length : Int), .bool ((p0.length : Int) != (p1.length : Int)), getL l' 11, getL l' 12, getL l' 13, getL l' 14, getL l' 15, getL l' 16, getL l' 17, getL l' 18, getL l' 19, getL l' 20, getL l' 21, getL l' 22, getL l' 23, getL l' 24, getL l' 25, getL l' 26] ∧ Hp sb s F0 s' []) ?_ ?_
    · intro K8 hK8
      refine HT_block ?_
      refine HT_loopK (fun kf l' s' => ∃ (x60 : Int), (laws_eqReS.l1 p0 p1 kf x60).bind G8 = some r ∧ l' = [.slice A0p p0.length c0p, .slice A1p p1.length c1p, undef, undef, getL l' 4, .int .i64 x60, .slice A0p p0.length c0p, .int .i64 (p0.length : Int), .slice A1p p1.length c1p, .int .i64 (p1.length : Int), .bool ((p0.length : Int) != (p1.length : Int)), getL l' 11, getL l' 12, getL l' 13, getL l' 14, getL l' 15, getL l' 16, getL l' 17, getL l' 18, getL l' 19, getL l' 20, getL l' 21, getL l' 22, getL l' 23, getL l' 24, getL l' 25, getL l' 26] ∧ Hp sb s F0 s' []) ((((p0.length : Int)) - (0)).toNat + 2) ⟨0, H, rfl, hH⟩ ?_
      rintro kf l' s74 ⟨x60, H, hl, hH⟩ K74 hK74
      generalize getL l' 4 = j4, getL l' 11 = j11, getL l' 12 = j12, getL l' 13 = j13, getL l' 14 = j14, getL l' 15 = j15, getL l' 16 = j16, getL l' 17 = j17, getL l' 18 = j18, getL l' 19 = j19, getL l' 20 = j20, getL l' 21 = j21, getL l' 22 = j22, getL l' 23 = j23, getL l' 24 = j24, getL l' 25 = j25, getL l' 26 = j26 at hl
      subst hl
      cases kf with
      | zero => simp [laws_eqReS.l1] at H
      | succ kf =>
        rw [laws_eqReS.l1] at H
        refine HT_seq_k ?_
        intro K75 hK75
        refine HT_seq_k ?_
        intro K76 hK76
        refine HT_region ?_
        refine HL_cons rfl ?_
        refine o_move ?_
        try dsimp only [putL, setL, evL, getL]
        refine HL_cons rfl ?_
        refine o_move ?_
        try dsimp only [putL, setL, evL, getL]
        refine HL_cons rfl ?_
        refine o_len rfl Try.underlying57 ?_
        try dsimp only [putL, setL, evL, getL]
        refine HL_cons rfl ?_
        refine o_bin rfl rfl rfl ?_
        try dsimp only [putL, setL, evL, getL]
        refine HL_nil ?_
        refine hK76 _ _ ?_
        rcases Bool.eq_false_or_eq_true (decide (x60 < (p0.length : Int))) with hb77 | hb77
        · replace H := iteT hb77 H
          refine HT_true (congrArg Value.bool hb77) ?_
          refine HT_skip ?_
          refine hK75 _ _ ?_
          refine HT_seq_k ?_
          intro K78 hK78
          refine HT_block ?_
          refine HT_seq_k ?_
          intro K79 hK79
          refine HX_draw hMix ?_
          refine HX_lim (R := fun _ => True) (k := 0) (fun s' => Gro s74 s') 11 ?_
          have hR := Gro.refl s74
          have hH0 := hH
          refine HK_readP 0 (v := .slice A0p p0.length c0p) rfl (by kernel_rfl) (fun c l s h => hQp c l s h) rfl (fun s' K hK => ?_) rfl rfl (fun _ => hR) ?_
          · refine o_move ?_
            exact hK
          try dsimp only [putL, setL, evL, getL]
          refine HK_readP 1 (v := .int .i64 x60) rfl (by kernel_rfl) (fun c l s h => hQp c l s h) rfl (fun s' K hK => ?_) rfl rfl (fun _ => hR) ?_
          · refine o_move ?_
            exact hK
          try dsimp only [putL, setL, evL, getL]
          replace H := headE H
          obtain ⟨u80, hu80, H⟩ := H
          obtain ⟨b80, o80, cs80, hr80, hh80, hel80⟩ := Rd.elb HRp0 hu80
          obtain ⟨_, _, rfl, rfl, ⟨A81, c81, rfl, D81⟩⟩ := hr80
          refine HK_readP 2 (v := .pointer (some ⟨b80, o80, none⟩)) rfl (by kernel_rfl) (fun c l s h => hQp c l s h) rfl (fun s' K hK => ?_) rfl rfl (fun _ => hR) ?_
          · refine hel80 s' rfl rfl Try.underlying57 tI139 ?_
            exact hK
          try dsimp only [putL, setL, evL, getL]
          refine HK_read 3 (v := .agg #[.int .i64 u80.1, .slice A81 u80.2.length c81]) rfl (by kernel_rfl) (fun c l s h => hQp c l s h) rfl (fun s' hR' K hK => ?_) rfl rfl hR ?_
          · refine o_loads' [.int .i64 u80.1, .slice A81 u80.2.length c81] rfl Try.underlying139 rfl tI139 rfl (fun j v hj => (hh80 (hH0.bs.mono.trans hR'.mono)) j v hj) ?_
            exact hK
          try dsimp only [putL, setL, evL, getL]
          refine HK_readP 4 (v := .slice A1p p1.length c1p) rfl (by kernel_rfl) (fun c l s h => hQp c l s h) rfl (fun s' K hK => ?_) rfl rfl (fun _ => hR) ?_
          · refine o_move ?_
            exact hK
          try dsimp only [putL, setL, evL, getL]
          refine HK_readP 5 (v := .int .i64 x60) rfl (by kernel_rfl) (fun c l s h => hQp c l s h) rfl (fun s' K hK => ?_) rfl rfl (fun _ => hR) ?_
          · refine o_move ?_
            exact hK
          try dsimp only [putL, setL, evL, getL]
          replace H := headE H
          obtain ⟨u82, hu82, H⟩ := H
          obtain ⟨b82, o82, cs82, hr82, hh82, hel82⟩ := Rd.elb HRp1 hu82
          obtain ⟨_, _, rfl, rfl, ⟨A83, c83, rfl, D83⟩⟩ := hr82
          refine HK_readP 6 (v := .pointer (some ⟨b82, o82, none⟩)) rfl (by kernel_rfl) (fun c l s h => hQp c l s h) rfl (fun s' K hK => ?_) rfl rfl (fun _ => hR) ?_
          · refine hel82 s' rfl rfl Try.underlying57 tI139 ?_
            exact hK
          try dsimp only [putL, setL, evL, getL]
          refine HK_read 7 (v := .agg #[.int .i64 u82.1, .slice A83 u82.2.length c83]) rfl (by kernel_rfl) (fun c l s h => hQp c l s h) rfl (fun s' hR' K hK => ?_) rfl rfl hR ?_
          · refine o_loads' [.int .i64 u82.1, .slice A83 u82.2.length c83] rfl Try.underlying139 rfl tI139 rfl (fun j v hj => (hh82 (hH0.bs.mono.trans hR'.mono)) j v hj) ?_
            exact hK
          try dsimp only [putL, setL, evL, getL]
          refine HK_more [8] (by kernel_rfl) rfl (fun _ => hR) ⟨⟨_, rfl, Or.inl ⟨rfl, ?_⟩⟩, trivial⟩
          replace H := headE H
          obtain ⟨u84, hu84, H⟩ := H
          skip
          refine o_call (args := #[.agg #[.int .i64 u80.1, .slice A81 u80.2.length c81], .agg #[.int .i64 u82.1, .slice A83 u82.2.length c83]]) Try.func138 rfl rfl rfl (laws_eqRe.ok sb s74 no u80.1 A81 c81 u80.2 u82.1 A83 c83 u82.2 D81 D83 (Hp.own hH.bs) _ hu84) ?_
          rintro _ s84 ⟨rfl, hD⟩
          replace hR := hR.trans hD.gro
          replace hH := hH.back0 hD (Up.refl _ _ _)
          clear hD
          dsimp only [addC, setC, rmC, selC, getC] at hH
          try dsimp only [putL, setL, evL, getL]
          refine HK_readP 9 (v := .bool (!u84)) rfl (by kernel_rfl) (fun c l s h => hQp c l s h) rfl (fun s' K hK => ?_) rfl rfl (fun _ => hR) ?_
          · refine o_not rfl ?_
            exact hK
          try dsimp only [putL, setL, evL, getL]
          refine HK_done (fun _ => hR) (by kernel_rfl) ?_
          refine hK79 _ _ ?_
          rcases Bool.eq_false_or_eq_true (!u84) with hb85 | hb85
          · replace H := iteT hb85 H
            refine HT_true (congrArg Value.bool hb85) ?_
            refine HT_seq_k ?_
            intro K86 hK86
            refine HT_region ?_
            refine HL_cons rfl ?_
            refine o_assign ?_
            try dsimp only [putL, setL, evL, getL]
            refine HL_nil ?_
            refine hK86 _ _ ?_
            refine HT_ret ?_
            replace H := escH (fun z hz => hG8 _ hz) H
            exact hQr _ _ [.bool false] ⟨rfl, trivial⟩ (retH (fun r => laws_eqReS.post sb s F0 r _ _) (show some _ = some r from H) ⟨rfl, hH⟩)
          · replace H := iteF hb85 H
            refine HT_false (congrArg Value.bool hb85) ?_
            refine HT_skip ?_
            refine hK78 _ _ ?_
            refine HT_region ?_
            refine HL_cons rfl ?_
            refine o_move ?_
            try dsimp only [putL, setL, evL, getL]
            refine HL_cons rfl ?_
            refine o_bin rfl rfl rfl ?_
            try dsimp only [putL, setL, evL, getL]
            refine HL_cons rfl ?_
            refine o_assign ?_
            try dsimp only [putL, setL, evL, getL]
            refine HL_nil ?_
            exact hK74 _ _ ⟨kf, Nat.lt_succ_self kf, IntKind.i64.wrap (x60 + 1), H, rfl, hH⟩
        · replace H := iteF hb77 H
          refine HT_false (congrArg Value.bool hb77) ?_
          refine HT_exit ?_
          exact hK8 _ _ ⟨H, rfl, hH⟩
    · rintro l' s87 ⟨H, hl, hH⟩
      generalize getL l' 4 = j4, getL l' 5 = j5, getL l' 11 = j11, getL l' 12 = j12, getL l' 13 = j13, getL l' 14 = j14, getL l' 15 = j15, getL l' 16 = j16, getL l' 17 = j17, getL l' 18 = j18, getL l' 19 = j19, getL l' 20 = j20, getL l' 21 = j21, getL l' 22 = j22, getL l' 23 = j23, getL l' 24 = j24, getL l' 25 = j25, getL l' 26 = j26 at hl
      subst hl
      replace H := hG8 _ H
      try dsimp only at H
      refine hK6 _ _ ?_
      refine HT_seq_k ?_
      intro K88 hK88
      refine HT_region ?_
      refine HL_cons rfl ?_
      refine o_assign ?_
      try dsimp only [putL, setL, evL, getL]
      refine HL_nil ?_
      refine hK88 _ _ ?_
      refine HT_ret ?_
      exact hQr _ _ [.bool true] ⟨rfl, trivial⟩ (retH (fun r => laws_eqReS.post sb s F0 r _ _) (show some _ = some r from H) ⟨rfl, hH⟩)
def laws_markIntS.l1 (p0 : List (Int)) : Nat → (List (Int)) → Int → Int → Option (Int × (List (Int)))
  | 0, _, _, _ => none
  | kf + 1, x42, x43, x44 => if (decide (x44 < (p0.length : Int))) = true then ((rd? x42 x44).bind fun u61 => (st? x42 x44 x43).bind fun x62 => laws_markIntS.l1 p0 kf x62 (IntKind.i64.wrap (x43 + 1)) (IntKind.i64.wrap (x44 + 1))) else (some (x43, x42))
def laws_markIntS.f (p0 : List (Int)) (p1 : Int) : Option (Int × (List (Int))) := (laws_markIntS.l1 p0 ((((p0.length : Int)) - (0)).toNat + 2) p0 p1 0).bind fun (o : Int × (List (Int))) => match o with | (x33, x34) => (some (x33, x34))
def laws_markIntS.post (sb s : St) (F0 : Fp) (A0p : Option Addr) (c0p : Nat) (p0 : List (Int)) (r : Int × (List (Int))) : Value → St → Prop := fun v s' => v = .int .i64 r.1 ∧ Hp sb s F0 s' [Ck.ol OI 3 A0p c0p r.2] ∧ r.2.length = p0.length
set_option maxRecDepth 100000 in
set_option maxHeartbeats 4000000 in
theorem laws_markIntS.ok (sb s : St) (F0 : Fp) (A0p : Option Addr) (c0p : Nat) (p0 : List (Int)) (p1 : Int) (hH : Hp sb s F0 s [Ck.ol OI 3 A0p c0p p0]) (r : Int × (List (Int))) (H : laws_markIntS.f p0 p1 = some r) : GCall Try.prog 89 #[.slice A0p p0.length c0p, .int .i64 p1] s (laws_markIntS.post sb s F0 A0p c0p p0 r) := by
  refine GCall_ofk [.tmp 4] [.slice A0p p0.length c0p, .int .i64 p1, undef, undef, undef, undef, undef, undef, undef, undef, undef, undef, undef, undef, undef, undef, undef, undef, undef] Try.func89 rfl rfl rfl ?_
  intro w Q hQr hQn hQp
  replace H := topE H
  unfold laws_markIntS.f at H
  refine HT_seq_k ?_
  intro K1 hK1
  refine HT_region ?_
  refine HL_cons rfl ?_
  refine o_assign ?_
  try dsimp only [putL, setL, evL, getL]
  refine HL_nil ?_
  refine hK1 _ _ ?_
  refine HT_seq_k ?_
  intro K2 hK2
  refine HT_seq_k ?_
  intro K3 hK3
  refine HT_region ?_
  refine HL_cons rfl ?_
  refine o_assign ?_
  try dsimp only [putL, setL, evL, getL]
  refine HL_nil ?_
  refine hK3 _ _ ?_
  refine joinH H fun G4 hG4 H => ?_
  refine HT_toK (fun l' s' => ∃ (x33 : Int) (x34 : List (Int)), G4 (x33, x34) = some r ∧ l' = [.slice A0p p0.length c0p, .int .i64 x33, undef, undef, .int .i64 0, getL l' 5, getL l' 6, getL l' 7, getL l' 8, getL l' 9, getL l' 10, getL l' 11, getL l' 12, getL l' 13, getL l' 14, getL l' 15, getL l' 16, getL l' 17, undef] ∧ Hp sb s F0 s' [Ck.ol OI 3 A0p c0p x34] ∧ x34.length = p0.length) ?_ ?_
  · intro K4 hK4
    refine HT_block ?_
    refine HT_loopK (fun kf l' s' => ∃ (x42 : List (Int)) (x43 : Int) (x44 : Int), (laws_markIntS.l1 p0 kf x42 x43 x44).bind G4 = some r ∧ l' = [.slice A0p p0.length c0p, .int .i64 x43, undef, undef, .int .i64 0, .int .i64 x44, getL l' 6, getL l' 7, getL l' 8, getL l' 9, getL l' 10, getL l' 11, getL l' 12, getL l' 13, getL l' 14, getL l' 15, getL l' 16, getL l' 17, undef] ∧ Hp sb s F0 s' [Ck.ol OI 3 A0p c0p x42] ∧ x42.length = p0.length) ((((p0.length : Int)) - (0)).toNat + 2) ⟨p0, p1, 0, H, rfl, hH, rfl⟩ ?_
    rintro kf l' s55 ⟨x42, x43, x44, H, hl, hH, hl42⟩ K55 hK55
    generalize getL l' 6 = j6, getL l' 7 = j7, getL l' 8 = j8, getL l' 9 = j9, getL l' 10 = j10, getL l' 11 = j11, getL l' 12 = j12, getL l' 13 = j13, getL l' 14 = j14, getL l' 15 = j15, getL l' 16 = j16, getL l' 17 = j17 at hl
    subst hl
    cases kf with
    | zero => simp [laws_markIntS.l1] at H
    | succ kf =>
      rw [laws_markIntS.l1] at H
      refine HT_seq_k ?_
      intro K56 hK56
      refine HT_seq_k ?_
      intro K57 hK57
      refine HT_region ?_
      refine HL_cons rfl ?_
      refine o_move ?_
      try dsimp only [putL, setL, evL, getL]
      refine HL_cons rfl ?_
      refine o_move ?_
      try dsimp only [putL, setL, evL, getL]
      refine HL_cons rfl ?_
      refine o_len rfl Try.underlying24 ?_
      try dsimp only [putL, setL, evL, getL]
      refine HL_cons rfl ?_
      refine o_bin rfl rfl rfl ?_
      try dsimp only [putL, setL, evL, getL]
      refine HL_nil ?_
      refine hK57 _ _ ?_
      rcases Bool.eq_false_or_eq_true (decide (x44 < (p0.length : Int))) with hb58 | hb58
      · replace H := iteT hb58 H
        refine HT_true (congrArg Value.bool hb58) ?_
        refine HT_skip ?_
        refine hK56 _ _ ?_
        refine HT_seq_k ?_
        intro K59 hK59
        refine HT_block ?_
        refine HT_seq_k ?_
        intro K60 hK60
        refine HT_region ?_
        refine HL_cons rfl ?_
        refine o_move ?_
        try dsimp only [putL, setL, evL, getL]
        refine HL_cons rfl ?_
        refine o_move ?_
        try dsimp only [putL, setL, evL, getL]
        refine HL_cons rfl ?_
        refine o_move ?_
        try dsimp only [putL, setL, evL, getL]
        replace H := headE H
        obtain ⟨u61, hu61, H⟩ := H
        obtain ⟨b61, o61, cs61, hA61, hr61, hh61, hel61⟩ := hH.elo 0 rfl hu61
        obtain rfl := hr61
        refine HL_cons rfl ?_
        refine hel61 s55 (sliceLen hl42) rfl Try.underlying24 tI3 ?_
        try dsimp only [putL, setL, evL, getL]
        replace H := headE H
        obtain ⟨x62, hx62, H⟩ := H
        refine HL_cons rfl ?_
        refine o_setF (vs := [.int .i64 x43]) (u := x43) hH 0 rfl rfl rfl rfl rfl tI3 hA61 hx62 (Ent.own (Ent.flat rfl)) ?_
        intro s62 hH'
        have hl62 := (st?_len hx62).trans hl42
        replace hH : Hp sb s F0 s62 [Ck.ol OI 3 A0p c0p x62] := hH'
        clear hH'
        try dsimp only [putL, setL, evL, getL]
        refine HL_nil ?_
        refine hK60 _ _ ?_
        refine HT_region ?_
        refine HL_cons rfl ?_
        refine o_move ?_
        try dsimp only [putL, setL, evL, getL]
        refine HL_cons rfl ?_
        refine o_bin rfl rfl rfl ?_
        try dsimp only [putL, setL, evL, getL]
        refine HL_cons rfl ?_
        refine o_assign ?_
        try dsimp only [putL, setL, evL, getL]
        refine HL_nil ?_
        refine hK59 _ _ ?_
        refine HT_region ?_
        refine HL_cons rfl ?_
        refine o_move ?_
        try dsimp only [putL, setL, evL, getL]
        refine HL_cons rfl ?_
        refine o_bin rfl rfl rfl ?_
        try dsimp only [putL, setL, evL, getL]
        refine HL_cons rfl ?_
        refine o_assign ?_
        try dsimp only [putL, setL, evL, getL]
        refine HL_nil ?_
        exact hK55 _ _ ⟨kf, Nat.lt_succ_self kf, x62, IntKind.i64.wrap (x43 + 1), IntKind.i64.wrap (x44 + 1), H, rfl, hH, hl62⟩
      · replace H := iteF hb58 H
        refine HT_false (congrArg Value.bool hb58) ?_
        refine HT_exit ?_
        exact hK4 _ _ ⟨x43, x42, H, rfl, hH, hl42⟩
  · rintro l' s63 ⟨x33, x34, H, hl, hH, hl34⟩
    generalize getL l' 5 = j5, getL l' 6 = j6, getL l' 7 = j7, getL l' 8 = j8, getL l' 9 = j9, getL l' 10 = j10, getL l' 11 = j11, getL l' 12 = j12, getL l' 13 = j13, getL l' 14 = j14, getL l' 15 = j15, getL l' 16 = j16, getL l' 17 = j17 at hl
    subst hl
    replace H := hG4 _ H
    try dsimp only at H
    refine hK2 _ _ ?_
    refine HT_seq_k ?_
    intro K64 hK64
    refine HT_region ?_
    refine HL_cons rfl ?_
    refine o_move ?_
    try dsimp only [putL, setL, evL, getL]
    refine HL_cons rfl ?_
    refine o_assign ?_
    try dsimp only [putL, setL, evL, getL]
    refine HL_nil ?_
    refine hK64 _ _ ?_
    refine HT_ret ?_
    exact hQr _ _ [.int .i64 x33] ⟨rfl, trivial⟩ (retH (fun r => laws_markIntS.post sb s F0 A0p c0p p0 r _ _) (show some _ = some r from H) ⟨rfl, hH, hl34⟩)
def laws_markReS.l1 (p0 : List ((Int) × (List (Int)))) : Nat → (List ((Int) × (List (Int)))) → Int → Int → Option (Int × (List ((Int) × (List (Int)))))
  | 0, _, _, _ => none
  | kf + 1, x78, x79, x80 => if (decide (x80 < (p0.length : Int))) = true then ((rd? x78 x80).bind fun u106 => (st? x78 x80 (x79, u106.2)).bind fun x108 => (rd? x108 x80).bind fun u110 => (laws_markIntS.f u110.2 (IntKind.i64.wrap (x79 + 1))).bind fun u114 => (st? x108 x80 (u110.1, u114.2)).bind fun x116 => laws_markReS.l1 p0 kf x116 u114.1 (IntKind.i64.wrap (x80 + 1))) else (some (x79, x78))
def laws_markReS.f (p0 : List ((Int) × (List (Int)))) (p1 : Int) : Option (Int × (List ((Int) × (List (Int))))) := (laws_markReS.l1 p0 ((((p0.length : Int)) - (0)).toNat + 2) p0 p1 0).bind fun (o : Int × (List ((Int) × (List (Int))))) => match o with | (x60, x61) => (some (x60, x61))
def laws_markReS.post (sb s : St) (F0 : Fp) (A0p : Option Addr) (c0p : Nat) (p0 : List ((Int) × (List (Int)))) (r : Int × (List ((Int) × (List (Int))))) : Value → St → Prop := fun v s' => v = .int .i64 r.1 ∧ Hp sb s F0 s' [Ck.ol OS139 139 A0p c0p r.2] ∧ r.2.length = p0.length
set_option maxRecDepth 100000 in
set_option maxHeartbeats 4000000 in
theorem laws_markReS.ok (sb s : St) (F0 : Fp) (A0p : Option Addr) (c0p : Nat) (p0 : List ((Int) × (List (Int)))) (p1 : Int) (hH : Hp sb s F0 s [Ck.ol OS139 139 A0p c0p p0]) (r : Int × (List ((Int) × (List (Int))))) (H : laws_markReS.f p0 p1 = some r) : GCall Try.prog 45 #[.slice A0p p0.length c0p, .int .i64 p1] s (laws_markReS.post sb s F0 A0p c0p p0 r) := by
  refine GCall_ofk [.tmp 4] [.slice A0p p0.length c0p, .int .i64 p1, undef, undef, undef, undef, undef, undef, undef, undef, undef, undef, undef, undef, undef, undef, undef, undef, undef, undef, undef, undef, undef, undef, undef, undef, undef] Try.func45 rfl rfl rfl ?_
  intro w Q hQr hQn hQp
  replace H := topE H
  unfold laws_markReS.f at H
  refine HT_seq_k ?_
  intro K1 hK1
  refine HT_region ?_
  refine HL_cons rfl ?_
  refine o_assign ?_
  try dsimp only [putL, setL, evL, getL]
  refine HL_nil ?_
  refine hK1 _ _ ?_
  refine HT_seq_k ?_
  intro K2 hK2
  refine HT_seq_k ?_
  intro K3 hK3
  refine HT_region ?_
  refine HL_cons rfl ?_
  refine o_assign ?_
  try dsimp only [putL, setL, evL, getL]
  refine HL_nil ?_
  refine hK3 _ _ ?_
  refine joinH H fun G4 hG4 H => ?_
  refine HT_toK (fun l' s' => ∃ (x60 : Int) (x61 : List ((Int) × (List (Int)))), G4 (x60, x61) = some r ∧ l' = [.slice A0p p0.length c0p, .int .i64 x60, undef, undef, .int .i64 0, getL l' 5, getL l' 6, getL l' 7, getL l' 8, getL l' 9, getL l' 10, getL l' 11, getL l' 12, getL l' 13, getL l' 14, getL l' 15, getL l' 16, getL l' 17, getL l' 18, getL l' 19, getL l' 20, getL l' 21, getL l' 22, getL l' 23, getL l' 24, getL l' 25, undef] ∧ Hp sb s F0 s' [Ck.ol OS139 139 A0p c0p x61] ∧ x61.length = p0.length) ?_ ?_
  · intro K4 hK4
    refine HT_block ?_
    refine HT_loopK (fun kf l' s' => ∃ (x78 : List ((Int) × (List (Int)))) (x79 : Int) (x80 : Int), (laws_markReS.l1 p0 kf x78 x79 x80).bind G4 = some r ∧ l' = [.slice A0p p0.length c0p, .int .i64 x79, undef, undef, .int .i64 0, .int .i64 x80, getL l' 6, getL l' 7, getL l' 8, getL l' 9, getL l' 10, getL l' 11, getL l' 12, getL l' 13, getL l' 14, getL l' 15, getL l' 16, getL l' 17, getL l' 18, getL l' 19, getL l' 20, getL l' 21, getL l' 22, getL l' 23, getL l' 24, getL l' 25, undef] ∧ Hp sb s F0 s' [Ck.ol OS139 139 A0p c0p x78] ∧ x78.length = p0.length) ((((p0.length : Int)) - (0)).toNat + 2) ⟨p0, p1, 0, H, rfl, hH, rfl⟩ ?_
    rintro kf l' s100 ⟨x78, x79, x80, H, hl, hH, hl78⟩ K100 hK100
    generalize getL l' 6 = j6, getL l' 7 = j7, getL l' 8 = j8, getL l' 9 = j9, getL l' 10 = j10, getL l' 11 = j11, getL l' 12 = j12, getL l' 13 = j13, getL l' 14 = j14, getL l' 15 = j15, getL l' 16 = j16, getL l' 17 = j17, getL l' 18 = j18, getL l' 19 = j19, getL l' 20 = j20, getL l' 21 = j21, getL l' 22 = j22, getL l' 23 = j23, getL l' 24 = j24, getL l' 25 = j25 at hl
    subst hl
    cases kf with
    | zero => simp [laws_markReS.l1] at H
    | succ kf =>
      rw [laws_markReS.l1] at H
      refine HT_seq_k ?_
      intro K101 hK101
      refine HT_seq_k ?_
      intro K102 hK102
      refine HT_region ?_
      refine HL_cons rfl ?_
      refine o_move ?_
      try dsimp only [putL, setL, evL, getL]
      refine HL_cons rfl ?_
      refine o_move ?_
      try dsimp only [putL, setL, evL, getL]
      refine HL_cons rfl ?_
      refine o_len rfl Try.underlying57 ?_
      try dsimp only [putL, setL, evL, getL]
      refine HL_cons rfl ?_
      refine o_bin rfl rfl rfl ?_
      try dsimp only [putL, setL, evL, getL]
      refine HL_nil ?_
      refine hK102 _ _ ?_
      rcases Bool.eq_false_or_eq_true (decide (x80 < (p0.length : Int))) with hb103 | hb103
      · replace H := iteT hb103 H
        refine HT_true (congrArg Value.bool hb103) ?_
        refine HT_skip ?_
        refine hK101 _ _ ?_
        refine HT_seq_k ?_
        intro K104 hK104
        refine HT_block ?_
        refine HT_seq_k ?_
        intro K105 hK105
        refine HT_region ?_
        refine HL_cons rfl ?_
        refine o_move ?_
        try dsimp only [putL, setL, evL, getL]
        refine HL_cons rfl ?_
        refine o_move ?_
        try dsimp only [putL, setL, evL, getL]
        refine HL_cons rfl ?_
        refine o_move ?_
        try dsimp only [putL, setL, evL, getL]
        replace H := headE H
        obtain ⟨u106, hu106, H⟩ := H
        obtain ⟨b106, o106, cs106, hA106, hr106, hh106, hel106⟩ := hH.elo 0 rfl hu106
        obtain ⟨_, _, rfl, rfl, ⟨A107, c107, rfl, D107⟩⟩ := hr106
        refine HL_cons rfl ?_
        refine hel106 s100 (sliceLen hl78) rfl Try.underlying57 tI139 ?_
        try dsimp only [putL, setL, evL, getL]
        refine HL_cons rfl ?_
        refine o_faddr' (ft := 3) (off := 0) rfl Try.underlying139 rfl tI3 (by decide) ?_
        try dsimp only [putL, setL, evL, getL]
        replace H := headE H
        obtain ⟨x108, hx108, H⟩ := H
        refine HL_cons rfl ?_
        refine o_setf (u := u106) (u' := (x79, u106.2)) (off := 0) hH 0 rfl rfl rfl rfl tI3 hA106 hu106 (Fup.left Fup.int) hx108 ?_
        intro s108 hH'
        have hl108 := (st?_len hx108).trans hl78
        replace hH : Hp sb s F0 s108 [Ck.ol OS139 139 A0p c0p x108] := hH'
        clear hH'
        try dsimp only [putL, setL, evL, getL]
        refine HL_nil ?_
        refine hK105 _ _ ?_
        refine HT_seq_k ?_
        intro K109 hK109
        refine HT_region ?_
        refine HL_cons rfl ?_
        refine o_move ?_
        try dsimp only [putL, setL, evL, getL]
        refine HL_cons rfl ?_
        refine o_bin rfl rfl rfl ?_
        try dsimp only [putL, setL, evL, getL]
        refine HL_cons rfl ?_
        refine o_assign ?_
        try dsimp only [putL, setL, evL, getL]
        refine HL_nil ?_
        refine hK109 _ _ ?_
        refine HT_region ?_
        refine HL_cons rfl ?_
        refine o_move ?_
        try dsimp only [putL, setL, evL, getL]
        refine HL_cons rfl ?_
        refine o_move ?_
        try dsimp only [putL, setL, evL, getL]
        replace H := headE H
        obtain ⟨u110, hu110, H⟩ := H
        obtain ⟨b110, o110, vs110, hA110, -, hH⟩ := hH.open 0 rfl rfl hu110
        dsimp only [addC, setC, rmC, selC, getC] at hH
        obtain ⟨v111, v112, rfl, hH⟩ := hH.el_pair 1 rfl rfl
        dsimp only [addC, setC, rmC, selC, getC] at hH
        obtain rfl := hH.el_rep 1 rfl
        replace hH := hH.drop 1 rfl
        dsimp only [addC, setC, rmC, selC, getC] at hH
        obtain ⟨A113, c113, rfl, hH⟩ := hH.el_sl 2 rfl rfl
        dsimp only [addC, setC, rmC, selC, getC] at hH
        replace hH : Hp sb s F0 s108 [Ck.oh OS139 139 A0p c0p x108 (Int.toNat x80) [.int .i64 u110.1, .slice A113 u110.2.length c113], Ck.emp, Ck.ol OI 3 A113 c113 u110.2] := hH
        refine HL_cons rfl ?_
        refine iaddr_of (K := KS139) hA110 hu110 s108 (sliceLen hl108) rfl Try.underlying57 tI139 ?_
        try dsimp only [putL, setL, evL, getL]
        refine HL_cons rfl ?_
        refine o_faddr' (ft := 24) (off := 1) rfl Try.underlying139 rfl tI24 (by decide) ?_
        try dsimp only [putL, setL, evL, getL]
        refine HL_cons rfl ?_
        refine o_load' rfl Try.underlying24 rfl (hH.hasoh 0 rfl hA110 1 _ rfl) ?_
        try dsimp only [putL, setL, evL, getL]
        refine HL_cons rfl ?_
        refine o_move ?_
        try dsimp only [putL, setL, evL, getL]
        replace H := headE H
        obtain ⟨u114, hu114, H⟩ := H
        obtain ⟨F1, hA, hB⟩ := hH.take [2] (by decide)
        dsimp only [addC, setC, rmC, selC, getC] at hA
        refine HL_cons rfl ?_
        refine o_call (args := #[.slice A113 u110.2.length c113, .int .i64 (IntKind.i64.wrap (x79 + 1))]) Try.func89 rfl rfl rfl (laws_markIntS.ok sb s108 F1 A113 c113 u110.2 (IntKind.i64.wrap (x79 + 1)) hA _ hu114) ?_
        rintro _ s114 ⟨rfl, hD, hl115⟩
        replace hH := hB _ _ _ (Up.refl _ _ _) hD
        clear hD hA hB
        dsimp only [addC, setC, rmC, selC, getC] at hH
        try dsimp only [putL, setL, evL, getL]
        refine HL_cons rfl ?_
        refine o_assign ?_
        try dsimp only [putL, setL, evL, getL]
        refine HL_nil ?_
        refine hK104 _ _ ?_
        refine HT_region ?_
        refine HL_cons rfl ?_
        refine o_move ?_
        try dsimp only [putL, setL, evL, getL]
        refine HL_cons rfl ?_
        refine o_bin rfl rfl rfl ?_
        try dsimp only [putL, setL, evL, getL]
        refine HL_cons rfl ?_
        refine o_assign ?_
        try dsimp only [putL, setL, evL, getL]
        refine HL_nil ?_
        replace hH := hH.conv [3] (by decide) (d := Ck.el OS139 [.int .i64 u110.1, .slice A113 u110.2.length c113] (u110.1, u114.2)) (Ent.pair (v1 := [.int .i64 u110.1]) (v2 := [.slice A113 u110.2.length c113]) (x1 := u110.1) (x2 := u114.2) (Ent.flat rfl) (Ent.slL hl115))
        dsimp only [addC, setC, rmC, selC, getC] at hH
        replace H := headE H
        obtain ⟨x116, hx116, H⟩ := H
        replace hH := hH.close (i := x80) 0 4 (by decide) rfl rfl rfl hx116
        dsimp only [addC, setC, rmC, selC, getC] at hH
        have hl116 := (st?_len hx116).trans hl108
        replace hH : Hp sb s F0 s114 [Ck.ol OS139 139 A0p c0p x116, Ck.emp, Ck.emp, Ck.emp, Ck.emp] := hH
        exact hK100 _ _ ⟨kf, Nat.lt_succ_self kf, x116, u114.1, IntKind.i64.wrap (x80 + 1), H, rfl, hH.sel [0] (by decide), hl116⟩
      · replace H := iteF hb103 H
        refine HT_false (congrArg Value.bool hb103) ?_
        refine HT_exit ?_
        exact hK4 _ _ ⟨x79, x78, H, rfl, hH, hl78⟩
  · rintro l' s117 ⟨x60, x61, H, hl, hH, hl61⟩
    generalize getL l' 5 = j5, getL l' 6 = j6, getL l' 7 = j7, getL l' 8 = j8, getL l' 9 = j9, getL l' 10 = j10, getL l' 11 = j11, getL l' 12 = j12, getL l' 13 = j13, getL l' 14 = j14, getL l' 15 = j15, getL l' 16 = j16, getL l' 17 = j17, getL l' 18 = j18, getL l' 19 = j19, getL l' 20 = j20, getL l' 21 = j21, getL l' 22 = j22, getL l' 23 = j23, getL l' 24 = j24, getL l' 25 = j25 at hl
    subst hl
    replace H := hG4 _ H
    try dsimp only at H
    refine hK2 _ _ ?_
    refine HT_seq_k ?_
    intro K118 hK118
    refine HT_region ?_
    refine HL_cons rfl ?_
    refine o_move ?_
    try dsimp only [putL, setL, evL, getL]
    refine HL_cons rfl ?_
    refine o_assign ?_
    try dsimp only [putL, setL, evL, getL]
    refine HL_nil ?_
    refine hK118 _ _ ?_
    refine HT_ret ?_
    exact hQr _ _ [.int .i64 x60] ⟨rfl, trivial⟩ (retH (fun r => laws_markReS.post sb s F0 A0p c0p p0 r _ _) (show some _ = some r from H) ⟨rfl, hH, hl61⟩)
def laws_markSpanS.l1 (p0 : List ((Int) × (Int) × (Int))) : Nat → (List ((Int) × (Int) × (Int))) → Int → Int → Option (Int × (List ((Int) × (Int) × (Int))))
  | 0, _, _, _ => none
  | kf + 1, x74, x75, x76 => if (decide (x76 < (p0.length : Int))) = true then ((rd? x74 x76).bind fun u101 => (st? x74 x76 (x75, u101.2.1, u101.2.2)).bind fun x102 => (rd? x102 x76).bind fun u105 => (st? x102 x76 (u105.1, IntKind.i64.wrap (x75 + 1), u105.2.2)).bind fun x106 => (rd? x106 x76).bind fun u109 => (st? x106 x76 (u109.1, u109.2.1, IntKind.i64.wrap ((IntKind.i64.wrap (x75 + 1)) + 1))).bind fun x110 => laws_markSpanS.l1 p0 kf x110 (IntKind.i64.wrap ((IntKind.i64.wrap ((IntKind.i64.wrap (x75 + 1)) + 1)) + 1)) (IntKind.i64.wrap (x76 + 1))) else (some (x75, x74))
def laws_markSpanS.f (p0 : List ((Int) × (Int) × (Int))) (p1 : Int) : Option (Int × (List ((Int) × (Int) × (Int)))) := (laws_markSpanS.l1 p0 ((((p0.length : Int)) - (0)).toNat + 2) p0 p1 0).bind fun (o : Int × (List ((Int) × (Int) × (Int)))) => match o with | (x57, x58) => (some (x57, x58))
def laws_markSpanS.post (sb s : St) (F0 : Fp) (A0p : Option Addr) (c0p : Nat) (p0 : List ((Int) × (Int) × (Int))) (r : Int × (List ((Int) × (Int) × (Int)))) : Value → St → Prop := fun v s' => v = .int .i64 r.1 ∧ Hp sb s F0 s' [Ck.ol OS138 138 A0p c0p r.2] ∧ r.2.length = p0.length
set_option maxRecDepth 100000 in
set_option maxHeartbeats 4000000 in
theorem laws_markSpanS.ok (sb s : St) (F0 : Fp) (A0p : Option Addr) (c0p : Nat) (p0 : List ((Int) × (Int) × (Int))) (p1 : Int) (hH : Hp sb s F0 s [Ck.ol OS138 138 A0p c0p p0]) (r : Int × (List ((Int) × (Int) × (Int)))) (H : laws_markSpanS.f p0 p1 = some r) : GCall Try.prog 46 #[.slice A0p p0.length c0p, .int .i64 p1] s (laws_markSpanS.post sb s F0 A0p c0p p0 r) := by
  refine GCall_ofk [.tmp 4] [.slice A0p p0.length c0p, .int .i64 p1, undef, undef, undef, undef, undef, undef, undef, undef, undef, undef, undef, undef, undef, undef, undef, undef, undef, undef, undef, undef, undef, undef, undef, undef, undef, undef, undef, undef, undef, undef, undef, undef] Try.func46 rfl rfl rfl ?_
  intro w Q hQr hQn hQp
  replace H := topE H
  unfold laws_markSpanS.f at H
  refine HT_seq_k ?_
  intro K1 hK1
  refine HT_region ?_
  refine HL_cons rfl ?_
  refine o_assign ?_
  try dsimp only [putL, setL, evL, getL]
  refine HL_nil ?_
  refine hK1 _ _ ?_
  refine HT_seq_k ?_
  intro K2 hK2
  refine HT_seq_k ?_
  intro K3 hK3
  refine HT_region ?_
  refine HL_cons rfl ?_
  refine o_assign ?_
  try dsimp only [putL, setL, evL, getL]
  refine HL_nil ?_
  refine hK3 _ _ ?_
  refine joinH H fun G4 hG4 H => ?_
  refine HT_toK (fun l' s' => ∃ (x57 : Int) (x58 : List ((Int) × (Int) × (Int))), G4 (x57, x58) = some r ∧ l' = [.slice A0p p0.length c0p, .int .i64 x57, undef, undef, .int .i64 0, getL l' 5, getL l' 6, getL l' 7, getL l' 8, getL l' 9, getL l' 10, getL l' 11, getL l' 12, getL l' 13, getL l' 14, getL l' 15, getL l' 16, getL l' 17, getL l' 18, getL l' 19, getL l' 20, getL l' 21, getL l' 22, getL l' 23, getL l' 24, getL l' 25, getL l' 26, getL l' 27, getL l' 28, getL l' 29, getL l' 30, getL l' 31, getL l' 32, undef] ∧ Hp sb s F0 s' [Ck.ol OS138 138 A0p c0p x58] ∧ x58.length = p0.length) ?_ ?_
  · intro K4 hK4
    refine HT_block ?_
    refine HT_loopK (fun kf l' s' => ∃ (x74 : List ((Int) × (Int) × (Int))) (x75 : Int) (x76 : Int), (laws_markSpanS.l1 p0 kf x74 x75 x76).bind G4 = some r ∧ l' = [.slice A0p p0.length c0p, .int .i64 x75, undef, undef, .int .i64 0, .int .i64 x76, getL l' 6, getL l' 7, getL l' 8, getL l' 9, getL l' 10, getL l' 11, getL l' 12, getL l' 13, getL l' 14, getL l' 15, getL l' 16, getL l' 17, getL l' 18, getL l' 19, getL l' 20, getL l' 21, getL l' 22, getL l' 23, getL l' 24, getL l' 25, getL l' 26, getL l' 27, getL l' 28, getL l' 29, getL l' 30, getL l' 31, getL l' 32, undef] ∧ Hp sb s F0 s' [Ck.ol OS138 138 A0p c0p x74] ∧ x74.length = p0.length) ((((p0.length : Int)) - (0)).toNat + 2) ⟨p0, p1, 0, H, rfl, hH, rfl⟩ ?_
    rintro kf l' s95 ⟨x74, x75, x76, H, hl, hH, hl74⟩ K95 hK95
    generalize getL l' 6 = j6, getL l' 7 = j7, getL l' 8 = j8, getL l' 9 = j9, getL l' 10 = j10, getL l' 11 = j11, getL l' 12 = j12, getL l' 13 = j13, getL l' 14 = j14, getL l' 15 = j15, getL l' 16 = j16, getL l' 17 = j17, getL l' 18 = j18, getL l' 19 = j19, getL l' 20 = j20, getL l' 21 = j21, getL l' 22 = j22, getL l' 23 = j23, getL l' 24 = j24, getL l' 25 = j25, getL l' 26 = j26, getL l' 27 = j27, getL l' 28 = j28, getL l' 29 = j29, getL l' 30 = j30, getL l' 31 = j31, getL l' 32 = j32 at hl
    subst hl
    cases kf with
    | zero => simp [laws_markSpanS.l1] at H
    | succ kf =>
      rw [laws_markSpanS.l1] at H
      refine HT_seq_k ?_
      intro K96 hK96
      refine HT_seq_k ?_
      intro K97 hK97
      refine HT_region ?_
      refine HL_cons rfl ?_
      refine o_move ?_
      try dsimp only [putL, setL, evL, getL]
      refine HL_cons rfl ?_
      refine o_move ?_
      try dsimp only [putL, setL, evL, getL]
      refine HL_cons rfl ?_
      refine o_len rfl Try.underlying54 ?_
      try dsimp only [putL, setL, evL, getL]
      refine HL_cons rfl ?_
      refine o_bin rfl rfl rfl ?_
      try dsimp only [putL, setL, evL, getL]
      refine HL_nil ?_
      refine hK97 _ _ ?_
      rcases Bool.eq_false_or_eq_true (decide (x76 < (p0.length : Int))) with hb98 | hb98
      · replace H := iteT hb98 H
        refine HT_true (congrArg Value.bool hb98) ?_
        refine HT_skip ?_
        refine hK96 _ _ ?_
        refine HT_seq_k ?_
        intro K99 hK99
        refine HT_block ?_
        refine HT_seq_k ?_
        intro K100 hK100
        refine HT_region ?_
        refine HL_cons rfl ?_
        refine o_move ?_
        try dsimp only [putL, setL, evL, getL]
        refine HL_cons rfl ?_
        refine o_move ?_
        try dsimp only [putL, setL, evL, getL]
        refine HL_cons rfl ?_
        refine o_move ?_
        try dsimp only [putL, setL, evL, getL]
        replace H := headE H
        obtain ⟨u101, hu101, H⟩ := H
        obtain ⟨b101, o101, cs101, hA101, hr101, hh101, hel101⟩ := hH.elo 0 rfl hu101
        obtain ⟨_, _, rfl, rfl, ⟨_, _, rfl, rfl, rfl⟩⟩ := hr101
        refine HL_cons rfl ?_
        refine hel101 s95 (sliceLen hl74) rfl Try.underlying54 tI138 ?_
        try dsimp only [putL, setL, evL, getL]
        refine HL_cons rfl ?_
        refine o_faddr' (ft := 3) (off := 0) rfl Try.underlying138 rfl tI3 (by decide) ?_
        try dsimp only [putL, setL, evL, getL]
        replace H := headE H
        obtain ⟨x102, hx102, H⟩ := H
        refine HL_cons rfl ?_
        refine o_setf (u := u101) (u' := (x75, u101.2.1, u101.2.2)) (off := 0) hH 0 rfl rfl rfl rfl tI3 hA101 hu101 (Fup.left Fup.int) hx102 ?_
        intro s102 hH'
        have hl102 := (st?_len hx102).trans hl74
        replace hH : Hp sb s F0 s102 [Ck.ol OS138 138 A0p c0p x102] := hH'
        clear hH'
        try dsimp only [putL, setL, evL, getL]
        refine HL_nil ?_
        refine hK100 _ _ ?_
        refine HT_seq_k ?_
        intro K103 hK103
        refine HT_region ?_
        refine HL_cons rfl ?_
        refine o_move ?_
        try dsimp only [putL, setL, evL, getL]
        refine HL_cons rfl ?_
        refine o_bin rfl rfl rfl ?_
        try dsimp only [putL, setL, evL, getL]
        refine HL_cons rfl ?_
        refine o_assign ?_
        try dsimp only [putL, setL, evL, getL]
        refine HL_nil ?_
        refine hK103 _ _ ?_
        refine HT_seq_k ?_
        intro K104 hK104
        refine HT_region ?_
        refine HL_cons rfl ?_
        refine o_move ?_
        try dsimp only [putL, setL, evL, getL]
        refine HL_cons rfl ?_
        refine o_move ?_
        try dsimp only [putL, setL, evL, getL]
        refine HL_cons rfl ?_
        refine o_move ?_
        try dsimp only [putL, setL, evL, getL]
        replace H := headE H
        obtain ⟨u105, hu105, H⟩ := H
        obtain ⟨b105, o105, cs105, hA105, hr105, hh105, hel105⟩ := hH.elo 0 rfl hu105
        obtain ⟨_, _, rfl, rfl, ⟨_, _, rfl, rfl, rfl⟩⟩ := hr105
        refine HL_cons rfl ?_
        refine hel105 s102 (sliceLen hl102) rfl Try.underlying54 tI138 ?_
        try dsimp only [putL, setL, evL, getL]
        refine HL_cons rfl ?_
        refine o_faddr' (ft := 3) (off := 1) rfl Try.underlying138 rfl tI3 (by decide) ?_
        try dsimp only [putL, setL, evL, getL]
        replace H := headE H
        obtain ⟨x106, hx106, H⟩ := H
        refine HL_cons rfl ?_
        refine o_setf (u := u105) (u' := (u105.1, IntKind.i64.wrap (x75 + 1), u105.2.2)) (off := 1) hH 0 rfl rfl rfl rfl tI3 hA105 hu105 (Fup.right (Fup.left Fup.int)) hx106 ?_
        intro s106 hH'
        have hl106 := (st?_len hx106).trans hl102
        replace hH : Hp sb s F0 s106 [Ck.ol OS138 138 A0p c0p x106] := hH'
        clear hH'
        try dsimp only [putL, setL, evL, getL]
        refine HL_nil ?_
        refine hK104 _ _ ?_
        refine HT_seq_k ?_
        intro K107 hK107
        refine HT_region ?_
        refine HL_cons rfl ?_
        refine o_move ?_
        try dsimp only [putL, setL, evL, getL]
        refine HL_cons rfl ?_
        refine o_bin rfl rfl rfl ?_
        try dsimp only [putL, setL, evL, getL]
        refine HL_cons rfl ?_
        refine o_assign ?_
        try dsimp only [putL, setL, evL, getL]
        refine HL_nil ?_
        refine hK107 _ _ ?_
        refine HT_seq_k ?_
        intro K108 hK108
        refine HT_region ?_
        refine HL_cons rfl ?_
        refine o_move ?_
        try dsimp only [putL, setL, evL, getL]
        refine HL_cons rfl ?_
        refine o_move ?_
        try dsimp only [putL, setL, evL, getL]
        refine HL_cons rfl ?_
        refine o_move ?_
        try dsimp only [putL, setL, evL, getL]
        replace H := headE H
        obtain ⟨u109, hu109, H⟩ := H
        obtain ⟨b109, o109, cs109, hA109, hr109, hh109, hel109⟩ := hH.elo 0 rfl hu109
        obtain ⟨_, _, rfl, rfl, ⟨_, _, rfl, rfl, rfl⟩⟩ := hr109
        refine HL_cons rfl ?_
        refine hel109 s106 (sliceLen hl106) rfl Try.underlying54 tI138 ?_
        try dsimp only [putL, setL, evL, getL]
        refine HL_cons rfl ?_
        refine o_faddr' (ft := 3) (off := 2) rfl Try.underlying138 rfl tI3 (by decide) ?_
        try dsimp only [putL, setL, evL, getL]
        replace H := headE H
        obtain ⟨x110, hx110, H⟩ := H
        refine HL_cons rfl ?_
        refine o_setf (u := u109) (u' := (u109.1, u109.2.1, IntKind.i64.wrap ((IntKind.i64.wrap (x75 + 1)) + 1))) (off := 2) hH 0 rfl rfl rfl rfl tI3 hA109 hu109 (Fup.right (Fup.right Fup.int)) hx110 ?_
        intro s110 hH'
        have hl110 := (st?_len hx110).trans hl106
        replace hH : Hp sb s F0 s110 [Ck.ol OS138 138 A0p c0p x110] := hH'
        clear hH'
        try dsimp only [putL, setL, evL, getL]
        refine HL_nil ?_
        refine hK108 _ _ ?_
        refine HT_region ?_
        refine HL_cons rfl ?_
        refine o_move ?_
        try dsimp only [putL, setL, evL, getL]
        refine HL_cons rfl ?_
        refine o_bin rfl rfl rfl ?_
        try dsimp only [putL, setL, evL, getL]
        refine HL_cons rfl ?_
        refine o_assign ?_
        try dsimp only [putL, setL, evL, getL]
        refine HL_nil ?_
        refine hK99 _ _ ?_
        refine HT_region ?_
        refine HL_cons rfl ?_
        refine o_move ?_
        try dsimp only [putL, setL, evL, getL]
        refine HL_cons rfl ?_
        refine o_bin rfl rfl rfl ?_
        try dsimp only [putL, setL, evL, getL]
        refine HL_cons rfl ?_
        refine o_assign ?_
        try dsimp only [putL, setL, evL, getL]
        refine HL_nil ?_
        exact hK95 _ _ ⟨kf, Nat.lt_succ_self kf, x110, IntKind.i64.wrap ((IntKind.i64.wrap ((IntKind.i64.wrap (x75 + 1)) + 1)) + 1), IntKind.i64.wrap (x76 + 1), H, rfl, hH, hl110⟩
      · replace H := iteF hb98 H
        refine HT_false (congrArg Value.bool hb98) ?_
        refine HT_exit ?_
        exact hK4 _ _ ⟨x75, x74, H, rfl, hH, hl74⟩
  · rintro l' s111 ⟨x57, x58, H, hl, hH, hl58⟩
    generalize getL l' 5 = j5, getL l' 6 = j6, getL l' 7 = j7, getL l' 8 = j8, getL l' 9 = j9, getL l' 10 = j10, getL l' 11 = j11, getL l' 12 = j12, getL l' 13 = j13, getL l' 14 = j14, getL l' 15 = j15, getL l' 16 = j16, getL l' 17 = j17, getL l' 18 = j18, getL l' 19 = j19, getL l' 20 = j20, getL l' 21 = j21, getL l' 22 = j22, getL l' 23 = j23, getL l' 24 = j24, getL l' 25 = j25, getL l' 26 = j26, getL l' 27 = j27, getL l' 28 = j28, getL l' 29 = j29, getL l' 30 = j30, getL l' 31 = j31, getL l' 32 = j32 at hl
    subst hl
    replace H := hG4 _ H
    try dsimp only at H
    refine hK2 _ _ ?_
    refine HT_seq_k ?_
    intro K112 hK112
    refine HT_region ?_
    refine HL_cons rfl ?_
    refine o_move ?_
    try dsimp only [putL, setL, evL, getL]
    refine HL_cons rfl ?_
    refine o_assign ?_
    try dsimp only [putL, setL, evL, getL]
    refine HL_nil ?_
    refine hK112 _ _ ?_
    refine HT_ret ?_
    exact hQr _ _ [.int .i64 x57] ⟨rfl, trivial⟩ (retH (fun r => laws_markSpanS.post sb s F0 A0p c0p p0 r _ _) (show some _ = some r from H) ⟨rfl, hH, hl58⟩)
def laws_heldSpanS.l1 (p0 : List ((Int) × (Int) × (Int))) : Nat → Int → Int → Option (Lo Int Int)
  | 0, _, _ => none
  | kf + 1, x95, x96 => if (decide (x96 < (p0.length : Int))) = true then ((rd? p0 x96).bind fun u127 => if (u127.1 != x95) = true then ((some (-1)).bind fun z => some (Lo.ret z)) else ((rd? p0 x96).bind fun u133 => if (u133.2.1 != (IntKind.i64.wrap (x95 + 1))) = true then ((some (-1)).bind fun z => some (Lo.ret z)) else ((rd? p0 x96).bind fun u139 => if (u139.2.2 != (IntKind.i64.wrap ((IntKind.i64.wrap (x95 + 1)) + 1))) = true then ((some (-1)).bind fun z => some (Lo.ret z)) else (laws_heldSpanS.l1 p0 kf (IntKind.i64.wrap ((IntKind.i64.wrap ((IntKind.i64.wrap (x95 + 1)) + 1)) + 1)) (IntKind.i64.wrap (x96 + 1)))))) else (some (Lo.go x95))
def laws_heldSpanS.f (p0 : List ((Int) × (Int) × (Int))) (p1 : Int) : Option Int := (laws_heldSpanS.l1 p0 ((((p0.length : Int)) - (0)).toNat + 2) p1 0).bind fun (o : Lo Int Int) => match o with | .go x73 => (some x73) | .ret z => some z
def laws_heldSpanS.post (sb s : St) (F0 : Fp) (r : Int) : Value → St → Prop := fun v s' => v = .int .i64 r ∧ Hp sb s F0 s' []
set_option maxRecDepth 100000 in
set_option maxHeartbeats 4000000 in
theorem laws_heldSpanS.ok (sb s : St) (F0 : Fp) (A0p : Option Addr) (c0p : Nat) (p0 : List ((Int) × (Int) × (Int))) (p1 : Int) (HRp0 : Rd KS138 sb A0p c0p p0) (hH : Hp sb s F0 s []) (r : Int) (H : laws_heldSpanS.f p0 p1 = some r) : GCall Try.prog 47 #[.slice A0p p0.length c0p, .int .i64 p1] s (laws_heldSpanS.post sb s F0 r) := by
  refine GCall_ofk [.tmp 4] [.slice A0p p0.length c0p, .int .i64 p1, undef, undef, undef, undef, undef, undef, undef, undef, undef, undef, undef, undef, undef, undef, undef, undef, undef, undef, undef, undef, undef, undef, undef, undef, undef, undef, undef, undef, undef, undef, undef, undef, undef, undef, undef, undef, undef, undef] Try.func47 rfl rfl rfl ?_
  intro w Q hQr hQn hQp
  replace H := topE H
  unfold laws_heldSpanS.f at H
  refine HT_seq_k ?_
  intro K1 hK1
  refine HT_region ?_
  refine HL_cons rfl ?_
  refine o_assign ?_
  try dsimp only [putL, setL, evL, getL]
  refine HL_nil ?_
  refine hK1 _ _ ?_
  refine HT_seq_k ?_
  intro K2 hK2
  refine HT_seq_k ?_
  intro K3 hK3
  refine HT_region ?_
  refine HL_cons rfl ?_
  refine o_assign ?_
  try dsimp only [putL, setL, evL, getL]
  refine HL_nil ?_
  refine hK3 _ _ ?_
  refine joinH H fun G4 hG4 H => ?_
  refine HT_toK (fun l' s' => ∃ (x73 : Int), G4 (.go x73) = some r ∧ l' = [.slice A0p p0.length c0p, .int .i64 x73, undef, undef, getL l' 4, getL l' 5, getL l' 6, getL l' 7, getL l' 8, getL l' 9, getL l' 10, getL l' 11, getL l' 12, getL l' 13, getL l' 14, getL l' 15, getL l' 16, getL l' 17, getL l' 18, getL l' 19, getL l' 20, getL l' 21, getL l' 22, getL l' 23, getL l' 24, getL l' 25, getL l' 26, getL l' 27, getL l' 28, getL l' 29, getL l' 30, getL l' 31, getL l' 32, getL l' 33, getL l' 34, getL l' 35, getL l' 36, getL l' 37, getL l' 38, undef] ∧ Hp sb s F0 s' []) ?_ ?_
  · intro K4 hK4
    refine HT_block ?_
    refine HT_loopK (fun kf l' s' => ∃ (x95 : Int) (x96 : Int), (laws_heldSpanS.l1 p0 kf x95 x96).bind G4 = some r ∧ l' = [.slice A0p p0.length c0p, .int .i64 x95, undef, undef, getL l' 4, .int .i64 x96, getL l' 6, getL l' 7, getL l' 8, getL l' 9, getL l' 10, getL l' 11, getL l' 12, getL l' 13, getL l' 14, getL l' 15, getL l' 16, getL l' 17, getL l' 18, getL l' 19, getL l' 20, getL l' 21, getL l' 22, getL l' 23, getL l' 24, getL l' 25, getL l' 26, getL l' 27, getL l' 28, getL l' 29, getL l' 30, getL l' 31, getL l' 32, getL l' 33, getL l' 34, getL l' 35, getL l' 36, getL l' 37, getL l' 38, undef] ∧ Hp sb s F0 s' []) ((((p0.length : Int)) - (0)).toNat + 2) ⟨p1, 0, H, rfl, hH⟩ ?_
    rintro kf l' s120 ⟨x95, x96, H, hl, hH⟩ K120 hK120
    generalize getL l' 4 = j4, getL l' 6 = j6, getL l' 7 = j7, getL l' 8 = j8, getL l' 9 = j9, getL l' 10 = j10, getL l' 11 = j11, getL l' 12 = j12, getL l' 13 = j13, getL l' 14 = j14, getL l' 15 = j15, getL l' 16 = j16, getL l' 17 = j17, getL l' 18 = j18, getL l' 19 = j19, getL l' 20 = j20, getL l' 21 = j21, getL l' 22 = j22, getL l' 23 = j23, getL l' 24 = j24, getL l' 25 = j25, getL l' 26 = j26, getL l' 27 = j27, getL l' 28 = j28, getL l' 29 = j29, getL l' 30 = j30, getL l' 31 = j31, getL l' 32 = j32, getL l' 33 = j33, getL l' 34 = j34, getL l' 35 = j35, getL l' 36 = j36, getL l' 37 = j37, getL l' 38 = j38 at hl
    subst hl
    cases kf with
    | zero => simp [laws_heldSpanS.l1] at H
    | succ kf =>
      rw [laws_heldSpanS.l1] at H
      refine HT_seq_k ?_
      intro K121 hK121
      refine HT_seq_k ?_
      intro K122 hK122
      refine HT_region ?_
      refine HL_cons rfl ?_
      refine o_move ?_
      try dsimp only [putL, setL, evL, getL]
      refine HL_cons rfl ?_
      refine o_move ?_
      try dsimp only [putL, setL, evL, getL]
      refine HL_cons rfl ?_
      refine o_len rfl Try.underlying54 ?_
      try dsimp only [putL, setL, evL, getL]
      refine HL_cons rfl ?_
      refine o_bin rfl rfl rfl ?_
      try dsimp only [putL, setL, evL, getL]
      refine HL_nil ?_
      refine hK122 _ _ ?_
      rcases Bool.eq_false_or_eq_true (decide (x96 < (p0.length : Int))) with hb123 | hb123
      · replace H := iteT hb123 H
        refine HT_true (congrArg Value.bool hb123) ?_
        refine HT_skip ?_
        refine hK121 _ _ ?_
        refine HT_seq_k ?_
        intro K124 hK124
        refine HT_block ?_
        refine HT_seq_k ?_
        intro K125 hK125
        refine HT_seq_k ?_
        intro K126 hK126
        refine HT_region ?_
        refine HL_cons rfl ?_
        refine o_move ?_
        try dsimp only [putL, setL, evL, getL]
        refine HL_cons rfl ?_
        refine o_move ?_
        try dsimp only [putL, setL, evL, getL]
        replace H := headE H
        obtain ⟨u127, hu127, H⟩ := H
        obtain ⟨b127, o127, cs127, hr127, hh127, hel127⟩ := Rd.elb HRp0 hu127
        obtain ⟨_, _, rfl, rfl, ⟨_, _, rfl, rfl, rfl⟩⟩ := hr127
        refine HL_cons rfl ?_
        refine hel127 s120 rfl rfl Try.underlying54 tI138 ?_
        try dsimp only [putL, setL, evL, getL]
        refine HL_cons rfl ?_
        refine o_faddr' (ft := 3) (off := 0) rfl Try.underlying138 rfl tI3 (by decide) ?_
        try dsimp only [putL, setL, evL, getL]
        refine HL_cons rfl ?_
        refine o_load' rfl Try.underlying3 rfl ((hh127 hH.bs.mono) 0 _ rfl) ?_
        try dsimp only [putL, setL, evL, getL]
        refine HL_cons rfl ?_
        refine o_move ?_
        try dsimp only [putL, setL, evL, getL]
        refine HL_cons rfl ?_
        refine o_bin rfl rfl rfl ?_
        try dsimp only [putL, setL, evL, getL]
        refine HL_nil ?_
        refine hK126 _ _ ?_
        rcases Bool.eq_false_or_eq_true (u127.1 != x95) with hb128 | hb128
        · replace H := iteT hb128 H
          refine HT_true (congrArg Value.bool hb128) ?_
          refine HT_seq_k ?_
          intro K129 hK129
          refine HT_region ?_
          refine HL_cons rfl ?_
          refine o_assign ?_
          try dsimp only [putL, setL, evL, getL]
          refine HL_nil ?_
          refine hK129 _ _ ?_
          refine HT_ret ?_
          replace H := escH (fun z hz => hG4 _ hz) H
          exact hQr _ _ [.int .i64 (-1)] ⟨rfl, trivial⟩ (retH (fun r => laws_heldSpanS.post sb s F0 r _ _) (show some _ = some r from H) ⟨rfl, hH⟩)
        · replace H := iteF hb128 H
          refine HT_false (congrArg Value.bool hb128) ?_
          refine HT_skip ?_
          refine hK125 _ _ ?_
          refine HT_seq_k ?_
          intro K130 hK130
          refine HT_region ?_
          refine HL_cons rfl ?_
          refine o_move ?_
          try dsimp only [putL, setL, evL, getL]
          refine HL_cons rfl ?_
          refine o_bin rfl rfl rfl ?_
          try dsimp only [putL, setL, evL, getL]
          refine HL_cons rfl ?_
          refine o_assign ?_
          try dsimp only [putL, setL, evL, getL]
          refine HL_nil ?_
          refine hK130 _ _ ?_
          refine HT_seq_k ?_
          intro K131 hK131
          refine HT_seq_k ?_
          intro K132 hK132
          refine HT_region ?_
          refine HL_cons rfl ?_
          refine o_move ?_
          try dsimp only [putL, setL, evL, getL]
          refine HL_cons rfl ?_
          refine o_move ?_
          try dsimp only [putL, setL, evL, getL]
          replace H := headE H
          obtain ⟨u133, hu133, H⟩ := H
          obtain ⟨b133, o133, cs133, hr133, hh133, hel133⟩ := Rd.elb HRp0 hu133
          obtain ⟨_, _, rfl, rfl, ⟨_, _, rfl, rfl, rfl⟩⟩ := hr133
          refine HL_cons rfl ?_
          refine hel133 s120 rfl rfl Try.underlying54 tI138 ?_
          try dsimp only [putL, setL, evL, getL]
          refine HL_cons rfl ?_
          refine o_faddr' (ft := 3) (off := 1) rfl Try.underlying138 rfl tI3 (by decide) ?_
          try dsimp only [putL, setL, evL, getL]
          refine HL_cons rfl ?_
          refine o_load' rfl Try.underlying3 rfl ((hh133 hH.bs.mono) 1 _ rfl) ?_
          try dsimp only [putL, setL, evL, getL]
          refine HL_cons rfl ?_
          refine o_move ?_
          try dsimp only [putL, setL, evL, getL]
          refine HL_cons rfl ?_
          refine o_bin rfl rfl rfl ?_
          try dsimp only [putL, setL, evL, getL]
          refine HL_nil ?_
          refine hK132 _ _ ?_
          rcases Bool.eq_false_or_eq_true (u133.2.1 != (IntKind.i64.wrap (x95 + 1))) with hb134 | hb134
          · replace H := iteT hb134 H
            refine HT_true (congrArg Value.bool hb134) ?_
            refine HT_seq_k ?_
            intro K135 hK135
            refine HT_region ?_
            refine HL_cons rfl ?_
            refine o_assign ?_
            try dsimp only [putL, setL, evL, getL]
            refine HL_nil ?_
            refine hK135 _ _ ?_
            refine HT_ret ?_
            replace H := escH (fun z hz => hG4 _ hz) H
            exact hQr _ _ [.int .i64 (-1)] ⟨rfl, trivial⟩ (retH (fun r => laws_heldSpanS.post sb s F0 r _ _) (show some _ = some r from H) ⟨rfl, hH⟩)
          · replace H := iteF hb134 H
            refine HT_false (congrArg Value.bool hb134) ?_
            refine HT_skip ?_
            refine hK131 _ _ ?_
            refine HT_seq_k ?_
            intro K136 hK136
            refine HT_region ?_
            refine HL_cons rfl ?_
            refine o_move ?_
            try dsimp only [putL, setL, evL, getL]
            refine HL_cons rfl ?_
            refine o_bin rfl rfl rfl ?_
            try dsimp only [putL, setL, evL, getL]
            refine HL_cons rfl ?_
            refine o_assign ?_
            try dsimp only [putL, setL, evL, getL]
            refine HL_nil ?_
            refine hK136 _ _ ?_
            refine HT_seq_k ?_
            intro K137 hK137
            refine HT_seq_k ?_
            intro K138 hK138
            refine HT_region ?_
            refine HL_cons rfl ?_
            refine o_move ?_
            try dsimp only [putL, setL, evL, getL]
            refine HL_cons rfl ?_
            refine o_move ?_
            try dsimp only [putL, setL, evL, getL]
            replace H := headE H
            obtain ⟨u139, hu139, H⟩ := H
            obtain ⟨b139, o139, cs139, hr139, hh139, hel139⟩ := Rd.elb HRp0 hu139
            obtain ⟨_, _, rfl, rfl, ⟨_, _, rfl, rfl, rfl⟩⟩ := hr139
            refine HL_cons rfl ?_
            refine hel139 s120 rfl rfl Try.underlying54 tI138 ?_
            try dsimp only [putL, setL, evL, getL]
            refine HL_cons rfl ?_
            refine o_faddr' (ft := 3) (off := 2) rfl Try.underlying138 rfl tI3 (by decide) ?_
            try dsimp only [putL, setL, evL, getL]
            refine HL_cons rfl ?_
            refine o_load' rfl Try.underlying3 rfl ((hh139 hH.bs.mono) 2 _ rfl) ?_
            try dsimp only [putL, setL, evL, getL]
            refine HL_cons rfl ?_
            refine o_move ?_
            try dsimp only [putL, setL, evL, getL]
            refine HL_cons rfl ?_
            refine o_bin rfl rfl rfl ?_
            try dsimp only [putL, setL, evL, getL]
            refine HL_nil ?_
            refine hK138 _ _ ?_
            rcases Bool.eq_false_or_eq_true (u139.2.2 != (IntKind.i64.wrap ((IntKind.i64.wrap (x95 + 1)) + 1))) with hb140 | hb140
            · replace H := iteT hb140 H
              refine HT_true (congrArg Value.bool hb140) ?_
              refine HT_seq_k ?_
              intro K141 hK141
              refine HT_region ?_
              refine HL_cons rfl ?_
              refine o_assign ?_
              try dsimp only [putL, setL, evL, getL]
              refine HL_nil ?_
              refine hK141 _ _ ?_
              refine HT_ret ?_
              replace H := escH (fun z hz => hG4 _ hz) H
              exact hQr _ _ [.int .i64 (-1)] ⟨rfl, trivial⟩ (retH (fun r => laws_heldSpanS.post sb s F0 r _ _) (show some _ = some r from H) ⟨rfl, hH⟩)
            · replace H := iteF hb140 H
              refine HT_false (congrArg Value.bool hb140) ?_
              refine HT_skip ?_
              refine hK137 _ _ ?_
              refine HT_region ?_
              refine HL_cons rfl ?_
              refine o_move ?_
              try dsimp only [putL, setL, evL, getL]
              refine HL_cons rfl ?_
              refine o_bin rfl rfl rfl ?_
              try dsimp only [putL, setL, evL, getL]
              refine HL_cons rfl ?_
              refine o_assign ?_
              try dsimp only [putL, setL, evL, getL]
              refine HL_nil ?_
              refine hK124 _ _ ?_
              refine HT_region ?_
              refine HL_cons rfl ?_
              refine o_move ?_
              try dsimp only [putL, setL, evL, getL]
              refine HL_cons rfl ?_
              refine o_bin rfl rfl rfl ?_
              try dsimp only [putL, setL, evL, getL]
              refine HL_cons rfl ?_
              refine o_assign ?_
              try dsimp only [putL, setL, evL, getL]
              refine HL_nil ?_
              exact hK120 _ _ ⟨kf, Nat.lt_succ_self kf, IntKind.i64.wrap ((IntKind.i64.wrap ((IntKind.i64.wrap (x95 + 1)) + 1)) + 1), IntKind.i64.wrap (x96 + 1), H, rfl, hH⟩
      · replace H := iteF hb123 H
        refine HT_false (congrArg Value.bool hb123) ?_
        refine HT_exit ?_
        exact hK4 _ _ ⟨x95, H, rfl, hH⟩
  · rintro l' s142 ⟨x73, H, hl, hH⟩
    generalize getL l' 4 = j4, getL l' 5 = j5, getL l' 6 = j6, getL l' 7 = j7, getL l' 8 = j8, getL l' 9 = j9, getL l' 10 = j10, getL l' 11 = j11, getL l' 12 = j12, getL l' 13 = j13, getL l' 14 = j14, getL l' 15 = j15, getL l' 16 = j16, getL l' 17 = j17, getL l' 18 = j18, getL l' 19 = j19, getL l' 20 = j20, getL l' 21 = j21, getL l' 22 = j22, getL l' 23 = j23, getL l' 24 = j24, getL l' 25 = j25, getL l' 26 = j26, getL l' 27 = j27, getL l' 28 = j28, getL l' 29 = j29, getL l' 30 = j30, getL l' 31 = j31, getL l' 32 = j32, getL l' 33 = j33, getL l' 34 = j34, getL l' 35 = j35, getL l' 36 = j36, getL l' 37 = j37, getL l' 38 = j38 at hl
    subst hl
    replace H := hG4 _ H
    try dsimp only at H
    refine hK2 _ _ ?_
    refine HT_seq_k ?_
    intro K143 hK143
    refine HT_region ?_
    refine HL_cons rfl ?_
    refine o_move ?_
    try dsimp only [putL, setL, evL, getL]
    refine HL_cons rfl ?_
    refine o_assign ?_
    try dsimp only [putL, setL, evL, getL]
    refine HL_nil ?_
    refine hK143 _ _ ?_
    refine HT_ret ?_
    exact hQr _ _ [.int .i64 x73] ⟨rfl, trivial⟩ (retH (fun r => laws_heldSpanS.post sb s F0 r _ _) (show some _ = some r from H) ⟨rfl, hH⟩)
def laws_FnExactSpansOf.f (p0 : List ((Int) × (List (Int)))) (p1 : List ((Int) × (Int) × (Int))) (p2 : Int) : Option Bool := (laws_szReS.f p0 1048576).bind fun u4 => if (decide (u4 < 0)) = true then (some true) else ((laws_szSpanS.f p1 u4).bind fun u10 => if (decide (u10 < 0)) = true then (some true) else ((laws_toReS.f p0).bind fun u16 => (laws_toSpanS.f p1).bind fun u18 => (spec_SpansOf.f u16 u18 p2).bind fun u20 => (laws_toReS.f p0).bind fun u23 => (laws_toSpanS.f p1).bind fun u26 => (impl_SpansOf.f u23 u26 p2).bind fun u29 => ((laws_eqSpanS.f u29.1 u20.1).bind fun u46 => if (!u46) = true then (some true) else (some (u29.2 != u20.2))).bind fun (o : Bool) => match o with | x45 => (if x45 = true then (some false) else ((laws_toReS.f p0).bind fun u53 => (laws_eqReS.f u23 u53).bind fun u55 => if (!u55) = true then (some false) else ((laws_toSpanS.f p1).bind fun u60 => (laws_eqSpanS.f u26 u60).bind fun u62 => if (!u62) = true then (some false) else ((laws_markReS.f u23 1).bind fun u67 => (laws_markSpanS.f u26 u67.1).bind fun u70 => (if (decide (u70.1 < 0)) = true then (some true) else ((laws_eqSpanS.f u29.1 u20.1).bind fun u91 => if (!u91) = true then (some true) else (some (u29.2 != u20.2)))).bind fun (o : Bool) => match o with | x89 => (if x89 = true then (some false) else ((laws_markSpanS.f u29.1 1).bind fun u98 => (laws_heldSpanS.f u98.2 1).bind fun u102 => if (decide (u102 < 0)) = true then (some false) else (if (u102 != u98.1) = true then (some false) else ((laws_toReS.f p0).bind fun u112 => (laws_toSpanS.f p1).bind fun u114 => (impl_SpansOf.f u112 u114 p2).bind fun u116 => ((laws_eqSpanS.f u116.1 u20.1).bind fun u133 => if (!u133) = true then (some true) else (some (u116.2 != u20.2))).bind fun (o : Bool) => match o with | x132 => (if x132 = true then (some false) else ((laws_heldSpanS.f u98.2 1).bind fun u140 => if (decide (u140 < 0)) = true then (some false) else (if (u140 != u98.1) = true then (some false) else (some true))))))))))))))
def laws_FnExactSpansOf.post (sb s : St) (F0 : Fp) (r : Bool) : Value → St → Prop := fun v s' => v = .bool r ∧ Hp sb s F0 s' []
set_option maxRecDepth 100000 in
set_option maxHeartbeats 4000000 in
theorem laws_FnExactSpansOf.ok (sb s : St) (F0 : Fp) (A0p : Option Addr) (c0p : Nat) (p0 : List ((Int) × (List (Int)))) (A1p : Option Addr) (c1p : Nat) (p1 : List ((Int) × (Int) × (Int))) (p2 : Int) (HRp0 : Rd KS135 sb A0p c0p p0) (HRp1 : Rd KS142 sb A1p c1p p1) (hH : Hp sb s F0 s []) (r : Bool) (H : laws_FnExactSpansOf.f p0 p1 p2 = some r) : GCall Try.prog 5 #[.slice A0p p0.length c0p, .slice A1p p1.length c1p, .int .i64 p2] s (laws_FnExactSpansOf.post sb s F0 r) := by
  refine GCall_ofk [.tmp 6] [.slice A0p p0.length c0p, .slice A1p p1.length c1p, .int .i64 p2, undef, undef, undef, undef, undef, undef, undef, undef, undef, undef, undef, undef, undef, undef, undef, undef, undef, undef, undef, undef, undef, undef, undef, undef, undef, undef, undef, undef, undef, undef, undef, undef, undef, undef, undef, undef, undef, undef, undef, undef, undef, undef, undef, undef, undef, undef, undef, undef, undef, undef, undef, undef, undef, undef, undef, undef, undef, undef, undef, undef, undef, undef, undef, undef, undef, undef, undef, undef, undef, undef, undef, undef, undef, undef, undef, undef, undef, undef, undef, undef, undef, undef, undef, undef, undef, undef, undef, undef, undef, undef, undef, undef, undef, undef, undef, undef, undef, undef, undef, undef, undef, undef, undef, undef, undef, undef, undef, undef, undef, undef, undef, undef, undef, undef, undef, undef, undef, undef, undef, undef, undef] Try.func5 rfl rfl rfl ?_
  intro w Q hQr hQn hQp
  replace H := topE H
  unfold laws_FnExactSpansOf.f at H
  refine HT_seq_k ?_
  intro K1 hK1
  refine HT_region ?_
  refine HL_cons rfl ?_
  refine o_assign ?_
  try dsimp only [putL, setL, evL, getL]
  refine HL_nil ?_
  refine hK1 _ _ ?_
  refine HT_seq_k ?_
  intro K2 hK2
  refine HT_region ?_
  refine HL_cons rfl ?_
  refine o_assign ?_
  try dsimp only [putL, setL, evL, getL]
  refine HL_nil ?_
  refine hK2 _ _ ?_
  refine HT_seq_k ?_
  intro K3 hK3
  refine HT_region ?_
  refine HL_cons rfl ?_
  refine o_move ?_
  try dsimp only [putL, setL, evL, getL]
  refine HL_cons rfl ?_
  refine o_move ?_
  try dsimp only [putL, setL, evL, getL]
  replace H := headE H
  obtain ⟨u4, hu4, H⟩ := H
  refine HL_cons rfl ?_
  refine o_call (args := #[.slice A0p p0.length c0p, .int .i64 1048576]) Try.func37 rfl rfl rfl (laws_szReS.ok sb s no A0p c0p p0 1048576 HRp0 (Hp.own hH.bs) _ hu4) ?_
  rintro _ s4 ⟨rfl, hD⟩
  replace hH := hH.back0 hD (Up.refl _ _ _)
  clear hD
  dsimp only [addC, setC, rmC, selC, getC] at hH
  try dsimp only [putL, setL, evL, getL]
  refine HL_cons rfl ?_
  refine o_assign ?_
  try dsimp only [putL, setL, evL, getL]
  refine HL_nil ?_
  refine hK3 _ _ ?_
  refine HT_seq_k ?_
  intro K5 hK5
  refine HT_seq_k ?_
  intro K6 hK6
  refine HT_region ?_
  refine HL_cons rfl ?_
  refine o_move ?_
  try dsimp only [putL, setL, evL, getL]
  refine HL_cons rfl ?_
  refine o_bin rfl rfl rfl ?_
  try dsimp only [putL, setL, evL, getL]
  refine HL_nil ?_
  refine hK6 _ _ ?_
  rcases Bool.eq_false_or_eq_true (decide (u4 < 0)) with hb7 | hb7
  · replace H := iteT hb7 H
    refine HT_true (congrArg Value.bool hb7) ?_
    refine HT_seq_k ?_
    intro K8 hK8
    refine HT_region ?_
    refine HL_cons rfl ?_
    refine o_assign ?_
    try dsimp only [putL, setL, evL, getL]
    refine HL_nil ?_
    refine hK8 _ _ ?_
    refine HT_ret ?_
    exact hQr _ _ [.bool true] ⟨rfl, trivial⟩ (retH (fun r => laws_FnExactSpansOf.post sb s F0 r _ _) (show some _ = some r from H) ⟨rfl, hH⟩)
  · replace H := iteF hb7 H
    refine HT_false (congrArg Value.bool hb7) ?_
    refine HT_skip ?_
    refine hK5 _ _ ?_
    refine HT_seq_k ?_
    intro K9 hK9
    refine HT_region ?_
    refine HL_cons rfl ?_
    refine o_move ?_
    try dsimp only [putL, setL, evL, getL]
    refine HL_cons rfl ?_
    refine o_move ?_
    try dsimp only [putL, setL, evL, getL]
    replace H := headE H
    obtain ⟨u10, hu10, H⟩ := H
    refine HL_cons rfl ?_
    refine o_call (args := #[.slice A1p p1.length c1p, .int .i64 u4]) Try.func38 rfl rfl rfl (laws_szSpanS.ok sb s4 no A1p c1p p1 u4 HRp1 (Hp.own hH.bs) _ hu10) ?_
    rintro _ s10 ⟨rfl, hD⟩
    replace hH := hH.back0 hD (Up.refl _ _ _)
    clear hD
    dsimp only [addC, setC, rmC, selC, getC] at hH
    try dsimp only [putL, setL, evL, getL]
    refine HL_cons rfl ?_
    refine o_assign ?_
    try dsimp only [putL, setL, evL, getL]
    refine HL_nil ?_
    refine hK9 _ _ ?_
    refine HT_seq_k ?_
    intro K11 hK11
    refine HT_seq_k ?_
    intro K12 hK12
    refine HT_region ?_
    refine HL_cons rfl ?_
    refine o_move ?_
    try dsimp only [putL, setL, evL, getL]
    refine HL_cons rfl ?_
    refine o_bin rfl rfl rfl ?_
    try dsimp only [putL, setL, evL, getL]
    refine HL_nil ?_
    refine hK12 _ _ ?_
    rcases Bool.eq_false_or_eq_true (decide (u10 < 0)) with hb13 | hb13
    · replace H := iteT hb13 H
      refine HT_true (congrArg Value.bool hb13) ?_
      refine HT_seq_k ?_
      intro K14 hK14
      refine HT_region ?_
      refine HL_cons rfl ?_
      refine o_assign ?_
      try dsimp only [putL, setL, evL, getL]
      refine HL_nil ?_
      refine hK14 _ _ ?_
      refine HT_ret ?_
      exact hQr _ _ [.bool true] ⟨rfl, trivial⟩ (retH (fun r => laws_FnExactSpansOf.post sb s F0 r _ _) (show some _ = some r from H) ⟨rfl, hH⟩)
    · replace H := iteF hb13 H
      refine HT_false (congrArg Value.bool hb13) ?_
      refine HT_skip ?_
      refine hK11 _ _ ?_
      refine HT_seq_k ?_
      intro K15 hK15
      refine HT_region ?_
      refine HL_cons rfl ?_
      refine o_move ?_
      try dsimp only [putL, setL, evL, getL]
      replace H := headE H
      obtain ⟨u16, hu16, H⟩ := H
      refine HL_cons rfl ?_
      refine o_call (args := #[.slice A0p p0.length c0p]) Try.func40 rfl rfl rfl (laws_toReS.ok sb s10 no A0p c0p p0 HRp0 (Hp.own hH.bs) _ hu16) ?_
      rintro _ s16 ⟨A17, c17, rfl, hD⟩
      replace hH := hH.back0 hD (Up.refl _ _ _)
      clear hD
      dsimp only [addC, setC, rmC, selC, getC] at hH
      try dsimp only [putL, setL, evL, getL]
      refine HL_cons rfl ?_
      refine o_move ?_
      try dsimp only [putL, setL, evL, getL]
      replace H := headE H
      obtain ⟨u18, hu18, H⟩ := H
      refine HL_cons rfl ?_
      refine o_call (args := #[.slice A1p p1.length c1p]) Try.func41 rfl rfl rfl (laws_toSpanS.ok sb s16 no A1p c1p p1 HRp1 (Hp.own hH.bs) _ hu18) ?_
      rintro _ s18 ⟨A19, c19, rfl, hD⟩
      replace hH := hH.back0 hD (Up.refl _ _ _)
      clear hD
      dsimp only [addC, setC, rmC, selC, getC] at hH
      try dsimp only [putL, setL, evL, getL]
      refine HL_cons rfl ?_
      refine o_move ?_
      try dsimp only [putL, setL, evL, getL]
      replace H := headE H
      obtain ⟨u20, hu20, H⟩ := H
      refine HL_cons rfl ?_
      refine o_call (args := #[.slice A17 u16.length c17, .slice A19 u18.length c19, .int .i64 p2]) Try.func39 rfl rfl rfl (spec_SpansOf.ok s18 s18 no A17 c17 u16 A19 c19 u18 p2 (hH.rd 0 rfl) (hH.rd 1 rfl) (Hp.own (Bs.refl s18)) _ hu20) ?_
      rintro _ s20 ⟨A21, c21, rfl, hD⟩
      replace hH := hH.back0T hD
      clear hD
      dsimp only [addC, setC, rmC, selC, getC] at hH
      try dsimp only [putL, setL, evL, getL]
      refine HL_cons rfl ?_
      refine o_move ?_
      try dsimp only [putL, setL, evL, getL]
      refine HL_cons rfl ?_
      refine o_extract rfl rfl ?_
      try dsimp only [putL, setL, evL, getL]
      refine HL_cons rfl ?_
      refine o_extract rfl rfl ?_
      try dsimp only [putL, setL, evL, getL]
      refine HL_cons rfl ?_
      refine o_assign ?_
      try dsimp only [putL, setL, evL, getL]
      refine HL_cons rfl ?_
      refine o_assign ?_
      try dsimp only [putL, setL, evL, getL]
      refine HL_nil ?_
      refine hK15 _ _ ?_
      refine HT_seq_k ?_
      intro K22 hK22
      refine HT_region ?_
      refine HL_cons rfl ?_
      refine o_move ?_
      try dsimp only [putL, setL, evL, getL]
      replace H := headE H
      obtain ⟨u23, hu23, H⟩ := H
      refine HL_cons rfl ?_
      refine o_call (args := #[.slice A0p p0.length c0p]) Try.func40 rfl rfl rfl (laws_toReS.ok sb s20 no A0p c0p p0 HRp0 (Hp.own hH.bs) _ hu23) ?_
      rintro _ s23 ⟨A24, c24, rfl, hD⟩
      replace hH := hH.back0 hD (Up.refl _ _ _)
      clear hD
      dsimp only [addC, setC, rmC, selC, getC] at hH
      try dsimp only [putL, setL, evL, getL]
      refine HL_cons rfl ?_
      refine o_assign ?_
      try dsimp only [putL, setL, evL, getL]
      refine HL_nil ?_
      refine hK22 _ _ ?_
      refine HT_seq_k ?_
      intro K25 hK25
      refine HT_region ?_
      refine HL_cons rfl ?_
      refine o_move ?_
      try dsimp only [putL, setL, evL, getL]
      replace H := headE H
      obtain ⟨u26, hu26, H⟩ := H
      refine HL_cons rfl ?_
      refine o_call (args := #[.slice A1p p1.length c1p]) Try.func41 rfl rfl rfl (laws_toSpanS.ok sb s23 no A1p c1p p1 HRp1 (Hp.own hH.bs) _ hu26) ?_
      rintro _ s26 ⟨A27, c27, rfl, hD⟩
      replace hH := hH.back0 hD (Up.refl _ _ _)
      clear hD
      dsimp only [addC, setC, rmC, selC, getC] at hH
      try dsimp only [putL, setL, evL, getL]
      refine HL_cons rfl ?_
      refine o_assign ?_
      try dsimp only [putL, setL, evL, getL]
      refine HL_nil ?_
      refine hK25 _ _ ?_
      refine HT_seq_k ?_
      intro K28 hK28
      refine HT_region ?_
      refine HL_cons rfl ?_
      refine o_move ?_
      try dsimp only [putL, setL, evL, getL]
      refine HL_cons rfl ?_
      refine o_move ?_
      try dsimp only [putL, setL, evL, getL]
      refine HL_cons rfl ?_
      refine o_move ?_
      try dsimp only [putL, setL, evL, getL]
      replace H := headE H
      obtain ⟨u29, hu29, H⟩ := H
      refine HL_cons rfl ?_
      refine o_call (args := #[.slice A24 u23.length c24, .slice A27 u26.length c27, .int .i64 p2]) Try.func42 rfl rfl rfl (impl_SpansOf.ok s26 s26 no A24 c24 u23 A27 c27 u26 p2 (hH.rd 3 rfl) (hH.rd 4 rfl) (Hp.own (Bs.refl s26)) _ hu29) ?_
      rintro _ s29 ⟨A30, c30, rfl, hD⟩
      replace hH := hH.back0T hD
      clear hD
      dsimp only [addC, setC, rmC, selC, getC] at hH
      try dsimp only [putL, setL, evL, getL]
      refine HL_cons rfl ?_
      refine o_move ?_
      try dsimp only [putL, setL, evL, getL]
      refine HL_cons rfl ?_
      refine o_extract rfl rfl ?_
      try dsimp only [putL, setL, evL, getL]
      refine HL_cons rfl ?_
      refine o_extract rfl rfl ?_
      try dsimp only [putL, setL, evL, getL]
      refine HL_cons rfl ?_
      refine o_assign ?_
      try dsimp only [putL, setL, evL, getL]
      refine HL_cons rfl ?_
      refine o_assign ?_
      try dsimp only [putL, setL, evL, getL]
      refine HL_nil ?_
      refine hK28 _ _ ?_
      refine HT_seq_k ?_
      intro K41 hK41
      refine joinH H fun G42 hG42 H => ?_
      refine HT_joinK (fun l' s' => ∃ (x45 : Bool), G42 x45 = some r ∧ l' = [.slice A0p p0.length c0p, .slice A1p p1.length c1p, .int .i64 p2, undef, undef, undef, .bool false, .int .i64 u10, .slice A21 u20.1.length c21, .bool u20.2, .slice A24 u23.length c24, .slice A27 u26.length c27, .slice A30 u29.1.length c30, .bool u29.2, undef, undef, undef, undef, undef, .slice A0p p0.length c0p, .int .i64 1048576, .int .i64 u4, .int .i64 u4, .bool (decide (u4 < 0)), .slice A1p p1.length c1p, .int .i64 u4, .int .i64 u10, .int .i64 u10, .bool (decide (u10 < 0)), .tuple #[.slice A21 u20.1.length c21, .bool u20.2], .slice A0p p0.length c0p, .slice A17 u16.length c17, .slice A1p p1.length c1p, .slice A19 u18.length c19, .int .i64 p2, .tuple #[.slice A21 u20.1.length c21, .bool u20.2], .slice A21 u20.1.length c21, .bool u20.2, .slice A0p p0.length c0p, .slice A24 u23.length c24, .slice A1p p1.length c1p, .slice A27 u26.length c27, .tuple #[.slice A30 u29.1.length c30, .bool u29.2], .slice A24 u23.length c24, .slice A27 u26.length c27, .int .i64 p2, .tuple #[.slice A30 u29.1.length c30, .bool u29.2], .slice A30 u29.1.length c30, .bool u29.2, getL l' 49, getL l' 50, getL l' 51, getL l' 52, getL l' 53, getL l' 54, getL l' 55, getL l' 56, .bool x45, undef, undef, undef, undef, undef, undef, undef, undef, undef, undef, undef, undef, undef, undef, undef, undef, undef, undef, undef, undef, undef, undef, undef, undef, undef, undef, undef, undef, undef, undef, undef, undef, undef, undef, undef, undef, undef, undef, undef, undef, undef, undef, undef, undef, undef, undef, undef, undef, undef, undef, undef, undef, undef, undef, undef, undef, undef, undef, undef, undef, undef, undef, undef, undef, undef, undef] ∧ Hp sb s F0 s' [Ck.ol OS138 138 A21 c21 u20.1, Ck.ol OS139 139 A24 c24 u23, Ck.ol OS138 138 A27 c27 u26, Ck.ol OS138 138 A30 c30 u29.1]) ?_ ?_
      · intro K42 hK42
        refine HT_region ?_
        refine HL_cons rfl ?_
        refine o_move ?_
        try dsimp only [putL, setL, evL, getL]
        refine HL_cons rfl ?_
        refine o_move ?_
        try dsimp only [putL, setL, evL, getL]
        replace H := headE H
        obtain ⟨u46, hu46, H⟩ := H
        refine HL_cons rfl ?_
        refine o_call (args := #[.slice A30 u29.1.length c30, .slice A21 u20.1.length c21]) Try.func43 rfl rfl rfl (laws_eqSpanS.ok s29 s29 no A30 c30 u29.1 A21 c21 u20.1 (hH.rd 5 rfl) (hH.rd 2 rfl) (Hp.own (Bs.refl s29)) _ hu46) ?_
        rintro _ s46 ⟨rfl, hD⟩
        replace hH := hH.back0T hD
        clear hD
        dsimp only [addC, setC, rmC, selC, getC] at hH
        try dsimp only [putL, setL, evL, getL]
        refine HL_cons rfl ?_
        refine o_not rfl ?_
        try dsimp only [putL, setL, evL, getL]
        refine HL_cons rfl ?_
        refine o_move ?_
        try dsimp only [putL, setL, evL, getL]
        rcases Bool.eq_false_or_eq_true (!u46) with hb47 | hb47
        · replace H := iteT hb47 H
          refine HL_skip ?_ ?_
          · exact wantF (j := 4) (b := false) (t := 53) (c := !u46) rfl rfl rfl rfl hb47
          try dsimp only [putL, setL, evL, getL]
          refine HL_skip ?_ ?_
          · exact wantF (j := 4) (b := false) (t := 53) (c := !u46) rfl rfl rfl rfl hb47
          try dsimp only [putL, setL, evL, getL]
          refine HL_skip ?_ ?_
          · exact wantF (j := 4) (b := false) (t := 53) (c := !u46) rfl rfl rfl rfl hb47
          try dsimp only [putL, setL, evL, getL]
          refine HL_cons rfl ?_
          refine o_pickT rfl hb47 ?_
          try dsimp only [putL, setL, evL, getL]
          refine HL_nil ?_
          exact hK42 _ _ ⟨true, H, rfl, hH.sel [2, 3, 4, 5] (by decide)⟩
        · replace H := iteF hb47 H
          refine HL_want ?_ ?_
          · exact wantT (j := 4) (b := false) (t := 53) (c := !u46) rfl rfl rfl rfl hb47
          refine o_move ?_
          try dsimp only [putL, setL, evL, getL]
          refine HL_want ?_ ?_
          · exact wantT (j := 4) (b := false) (t := 53) (c := !u46) rfl rfl rfl rfl hb47
          refine o_move ?_
          try dsimp only [putL, setL, evL, getL]
          refine HL_want ?_ ?_
          · exact wantT (j := 4) (b := false) (t := 53) (c := !u46) rfl rfl rfl rfl hb47
          refine o_neb rfl rfl Try.underlying4 ?_
          try dsimp only [putL, setL, evL, getL]
          refine HL_cons rfl ?_
          refine o_pickF rfl hb47 ?_
          try dsimp only [putL, setL, evL, getL]
          refine HL_nil ?_
          exact hK42 _ _ ⟨u29.2 != u20.2, H, rfl, hH.sel [2, 3, 4, 5] (by decide)⟩
      · rintro l' s48 ⟨x45, H, hl, hH⟩
        generalize getL l' 49 = j49, getL l' 50 = j50, getL l' 51 = j51, getL l' 52 = j52, getL l' 53 = j53, getL l' 54 = j54, getL l' 55 = j55, getL l' 56 = j56 at hl
        subst hl
        replace H := hG42 _ H
        try dsimp only at H
        rcases Bool.eq_false_or_eq_true x45 with hb49 | hb49
        · replace H := iteT hb49 H
          refine HT_true (congrArg Value.bool hb49) ?_
          refine HT_seq_k ?_
          intro K50 hK50
          refine HT_region ?_
          refine HL_cons rfl ?_
          refine o_assign ?_
          try dsimp only [putL, setL, evL, getL]
          refine HL_nil ?_
          refine hK50 _ _ ?_
          refine HT_ret ?_
          exact hQr _ _ [.bool false] ⟨rfl, trivial⟩ (retH (fun r => laws_FnExactSpansOf.post sb s F0 r _ _) (show some _ = some r from H) ⟨rfl, hH.sel [] (by decide)⟩)
        · replace H := iteF hb49 H
          refine HT_false (congrArg Value.bool hb49) ?_
          refine HT_skip ?_
          refine hK41 _ _ ?_
          refine HT_seq_k ?_
          intro K51 hK51
          refine HT_seq_k ?_
          intro K52 hK52
          refine HT_region ?_
          refine HL_cons rfl ?_
          refine o_move ?_
          try dsimp only [putL, setL, evL, getL]
          refine HL_cons rfl ?_
          refine o_move ?_
          try dsimp only [putL, setL, evL, getL]
          replace H := headE H
          obtain ⟨u53, hu53, H⟩ := H
          refine HL_cons rfl ?_
          refine o_call (args := #[.slice A0p p0.length c0p]) Try.func40 rfl rfl rfl (laws_toReS.ok sb s48 no A0p c0p p0 HRp0 (Hp.own hH.bs) _ hu53) ?_
          rintro _ s53 ⟨A54, c54, rfl, hD⟩
          replace hH := hH.back0 hD (Up.refl _ _ _)
          clear hD
          dsimp only [addC, setC, rmC, selC, getC] at hH
          try dsimp only [putL, setL, evL, getL]
          replace H := headE H
          obtain ⟨u55, hu55, H⟩ := H
          refine HL_cons rfl ?_
          refine o_call (args := #[.slice A24 u23.length c24, .slice A54 u53.length c54]) Try.func44 rfl rfl rfl (laws_eqReS.ok s53 s53 no A24 c24 u23 A54 c54 u53 (hH.rd 1 rfl) (hH.rd 4 rfl) (Hp.own (Bs.refl s53)) _ hu55) ?_
          rintro _ s55 ⟨rfl, hD⟩
          replace hH := hH.back0T hD
          clear hD
          dsimp only [addC, setC, rmC, selC, getC] at hH
          try dsimp only [putL, setL, evL, getL]
          refine HL_cons rfl ?_
          refine o_not rfl ?_
          try dsimp only [putL, setL, evL, getL]
          refine HL_nil ?_
          refine hK52 _ _ ?_
          rcases Bool.eq_false_or_eq_true (!u55) with hb56 | hb56
          · replace H := iteT hb56 H
            refine HT_true (congrArg Value.bool hb56) ?_
            refine HT_seq_k ?_
            intro K57 hK57
            refine HT_region ?_
            refine HL_cons rfl ?_
            refine o_assign ?_
            try dsimp only [putL, setL, evL, getL]
            refine HL_nil ?_
            refine hK57 _ _ ?_
            refine HT_ret ?_
            exact hQr _ _ [.bool false] ⟨rfl, trivial⟩ (retH (fun r => laws_FnExactSpansOf.post sb s F0 r _ _) (show some _ = some r from H) ⟨rfl, hH.sel [] (by decide)⟩)
          · replace H := iteF hb56 H
            refine HT_false (congrArg Value.bool hb56) ?_
            refine HT_skip ?_
            refine hK51 _ _ ?_
            refine HT_seq_k ?_
            intro K58 hK58
            refine HT_seq_k ?_
            intro K59 hK59
            refine HT_region ?_
            refine HL_cons rfl ?_
            refine o_move ?_
            try dsimp only [putL, setL, evL, getL]
            refine HL_cons rfl ?_
            refine o_move ?_
            try dsimp only [putL, setL, evL, getL]
            replace H := headE H
            obtain ⟨u60, hu60, H⟩ := H
            refine HL_cons rfl ?_
            refine o_call (args := #[.slice A1p p1.length c1p]) Try.func41 rfl rfl rfl (laws_toSpanS.ok sb s55 no A1p c1p p1 HRp1 (Hp.own hH.bs) _ hu60) ?_
            rintro _ s60 ⟨A61, c61, rfl, hD⟩
            replace hH := hH.back0 hD (Up.refl _ _ _)
            clear hD
            dsimp only [addC, setC, rmC, selC, getC] at hH
            try dsimp only [putL, setL, evL, getL]
            replace H := headE H
            obtain ⟨u62, hu62, H⟩ := H
            refine HL_cons rfl ?_
            refine o_call (args := #[.slice A27 u26.length c27, .slice A61 u60.length c61]) Try.func43 rfl rfl rfl (laws_eqSpanS.ok s60 s60 no A27 c27 u26 A61 c61 u60 (hH.rd 2 rfl) (hH.rd 5 rfl) (Hp.own (Bs.refl s60)) _ hu62) ?_
            rintro _ s62 ⟨rfl, hD⟩
            replace hH := hH.back0T hD
            clear hD
            dsimp only [addC, setC, rmC, selC, getC] at hH
            try dsimp only [putL, setL, evL, getL]
            refine HL_cons rfl ?_
            refine o_not rfl ?_
            try dsimp only [putL, setL, evL, getL]
            refine HL_nil ?_
            refine hK59 _ _ ?_
            rcases Bool.eq_false_or_eq_true (!u62) with hb63 | hb63
            · replace H := iteT hb63 H
              refine HT_true (congrArg Value.bool hb63) ?_
              refine HT_seq_k ?_
              intro K64 hK64
              refine HT_region ?_
              refine HL_cons rfl ?_
              refine o_assign ?_
              try dsimp only [putL, setL, evL, getL]
              refine HL_nil ?_
              refine hK64 _ _ ?_
              refine HT_ret ?_
              exact hQr _ _ [.bool false] ⟨rfl, trivial⟩ (retH (fun r => laws_FnExactSpansOf.post sb s F0 r _ _) (show some _ = some r from H) ⟨rfl, hH.sel [] (by decide)⟩)
            · replace H := iteF hb63 H
              refine HT_false (congrArg Value.bool hb63) ?_
              refine HT_skip ?_
              refine hK58 _ _ ?_
              refine HT_seq_k ?_
              intro K65 hK65
              refine HT_region ?_
              refine HL_cons rfl ?_
              refine o_assign ?_
              try dsimp only [putL, setL, evL, getL]
              refine HL_nil ?_
              refine hK65 _ _ ?_
              refine HT_seq_k ?_
              intro K66 hK66
              refine HT_region ?_
              refine HL_cons rfl ?_
              refine o_move ?_
              try dsimp only [putL, setL, evL, getL]
              refine HL_cons rfl ?_
              refine o_move ?_
              try dsimp only [putL, setL, evL, getL]
              replace H := headE H
              obtain ⟨u67, hu67, H⟩ := H
              obtain ⟨F1, hA, hB⟩ := hH.take [1] (by decide)
              dsimp only [addC, setC, rmC, selC, getC] at hA
              refine HL_cons rfl ?_
              refine o_call (args := #[.slice A24 u23.length c24, .int .i64 1]) Try.func45 rfl rfl rfl (laws_markReS.ok sb s62 F1 A24 c24 u23 1 hA _ hu67) ?_
              rintro _ s67 ⟨rfl, hD, hl68⟩
              replace hH := hB _ _ _ (Up.refl _ _ _) hD
              clear hD hA hB
              dsimp only [addC, setC, rmC, selC, getC] at hH
              try dsimp only [putL, setL, evL, getL]
              refine HL_cons rfl ?_
              refine o_assign ?_
              try dsimp only [putL, setL, evL, getL]
              refine HL_nil ?_
              refine hK66 _ _ ?_
              refine HT_seq_k ?_
              intro K69 hK69
              refine HT_region ?_
              refine HL_cons rfl ?_
              refine o_move ?_
              try dsimp only [putL, setL, evL, getL]
              refine HL_cons rfl ?_
              refine o_move ?_
              try dsimp only [putL, setL, evL, getL]
              replace H := headE H
              obtain ⟨u70, hu70, H⟩ := H
              obtain ⟨F1, hA, hB⟩ := hH.take [2] (by decide)
              dsimp only [addC, setC, rmC, selC, getC] at hA
              refine HL_cons rfl ?_
              refine o_call (args := #[.slice A27 u26.length c27, .int .i64 u67.1]) Try.func46 rfl rfl rfl (laws_markSpanS.ok sb s67 F1 A27 c27 u26 u67.1 hA _ hu70) ?_
              rintro _ s70 ⟨rfl, hD, hl71⟩
              replace hH := hB _ _ _ (Up.refl _ _ _) hD
              clear hD hA hB
              dsimp only [addC, setC, rmC, selC, getC] at hH
              try dsimp only [putL, setL, evL, getL]
              refine HL_cons rfl ?_
              refine o_assign ?_
              try dsimp only [putL, setL, evL, getL]
              refine HL_nil ?_
              refine hK69 _ _ ?_
              refine HT_seq_k ?_
              intro K84 hK84
              refine joinH H fun G85 hG85 H => ?_
              refine HT_joinK (fun l' s' => ∃ (x89 : Bool), G85 x89 = some r ∧ l' = [.slice A0p p0.length c0p, .slice A1p p1.length c1p, .int .i64 p2, undef, undef, undef, .bool false, .int .i64 u10, .slice A21 u20.1.length c21, .bool u20.2, .slice A24 u23.length c24, .slice A27 u26.length c27, .slice A30 u29.1.length c30, .bool u29.2, .int .i64 u70.1, undef, undef, undef, undef, .slice A0p p0.length c0p, .int .i64 1048576, .int .i64 u4, .int .i64 u4, .bool (decide (u4 < 0)), .slice A1p p1.length c1p, .int .i64 u4, .int .i64 u10, .int .i64 u10, .bool (decide (u10 < 0)), .tuple #[.slice A21 u20.1.length c21, .bool u20.2], .slice A0p p0.length c0p, .slice A17 u16.length c17, .slice A1p p1.length c1p, .slice A19 u18.length c19, .int .i64 p2, .tuple #[.slice A21 u20.1.length c21, .bool u20.2], .slice A21 u20.1.length c21, .bool u20.2, .slice A0p p0.length c0p, .slice A24 u23.length c24, .slice A1p p1.length c1p, .slice A27 u26.length c27, .tuple #[.slice A30 u29.1.length c30, .bool u29.2], .slice A24 u23.length c24, .slice A27 u26.length c27, .int .i64 p2, .tuple #[.slice A30 u29.1.length c30, .bool u29.2], .slice A30 u29.1.length c30, .bool u29.2, j49, j50, j51, j52, j53, j54, j55, j56, .bool x45, .slice A24 u23.length c24, .slice A0p p0.length c0p, .slice A54 u53.length c54, .bool u55, .bool (!u55), .slice A27 u26.length c27, .slice A1p p1.length c1p, .slice A61 u60.length c61, .bool u62, .bool (!u62), .slice A24 u23.length c24, .int .i64 1, .int .i64 u67.1, .slice A27 u26.length c27, .int .i64 u67.1, .int .i64 u70.1, getL l' 74, getL l' 75, getL l' 76, getL l' 77, getL l' 78, getL l' 79, getL l' 80, getL l' 81, getL l' 82, getL l' 83, getL l' 84, getL l' 85, .bool x89, undef, undef, undef, undef, undef, undef, undef, undef, undef, undef, undef, undef, undef, undef, undef, undef, undef, undef, undef, undef, undef, undef, undef, undef, undef, undef, undef, undef, undef, undef, undef, undef, undef, undef, undef, undef, undef] ∧ Hp sb s F0 s' [Ck.ol OS138 138 A21 c21 u20.1, Ck.ol OS138 138 A30 c30 u29.1]) ?_ ?_
              · intro K85 hK85
                refine HT_region ?_
                refine HL_cons rfl ?_
                refine o_move ?_
                try dsimp only [putL, setL, evL, getL]
                refine HL_cons rfl ?_
                refine o_bin rfl rfl rfl ?_
                try dsimp only [putL, setL, evL, getL]
                refine HL_cons rfl ?_
                refine o_move ?_
                try dsimp only [putL, setL, evL, getL]
                rcases Bool.eq_false_or_eq_true (decide (u70.1 < 0)) with hb90 | hb90
                · replace H := iteT hb90 H
                  refine HL_skip ?_ ?_
                  · exact wantF (j := 2) (b := false) (t := 76) (c := decide (u70.1 < 0)) rfl rfl rfl rfl hb90
                  try dsimp only [putL, setL, evL, getL]
                  refine HL_skip ?_ ?_
                  · exact wantF (j := 2) (b := false) (t := 76) (c := decide (u70.1 < 0)) rfl rfl rfl rfl hb90
                  try dsimp only [putL, setL, evL, getL]
                  refine HL_skip ?_ ?_
                  · exact wantF (j := 2) (b := false) (t := 76) (c := decide (u70.1 < 0)) rfl rfl rfl rfl hb90
                  try dsimp only [putL, setL, evL, getL]
                  refine HL_skip ?_ ?_
                  · exact wantF (j := 2) (b := false) (t := 76) (c := decide (u70.1 < 0)) rfl rfl rfl rfl hb90
                  try dsimp only [putL, setL, evL, getL]
                  refine HL_cons rfl ?_
                  refine o_pickT rfl hb90 ?_
                  try dsimp only [putL, setL, evL, getL]
                  refine HL_cons rfl ?_
                  refine o_move ?_
                  try dsimp only [putL, setL, evL, getL]
                  refine HL_skip ?_ ?_
                  · exact wantF (j := 8) (b := false) (t := 82) (c := true) rfl rfl rfl rfl rfl
                  try dsimp only [putL, setL, evL, getL]
                  refine HL_skip ?_ ?_
                  · exact wantF (j := 8) (b := false) (t := 82) (c := true) rfl rfl rfl rfl rfl
                  try dsimp only [putL, setL, evL, getL]
                  refine HL_skip ?_ ?_
                  · exact wantF (j := 8) (b := false) (t := 82) (c := true) rfl rfl rfl rfl rfl
                  try dsimp only [putL, setL, evL, getL]
                  refine HL_cons rfl ?_
                  refine o_pickT rfl rfl ?_
                  try dsimp only [putL, setL, evL, getL]
                  refine HL_nil ?_
                  exact hK85 _ _ ⟨true, H, rfl, hH.sel [0, 3] (by decide)⟩
                · replace H := iteF hb90 H
                  refine HL_want ?_ ?_
                  · exact wantT (j := 2) (b := false) (t := 76) (c := decide (u70.1 < 0)) rfl rfl rfl rfl hb90
                  refine o_move ?_
                  try dsimp only [putL, setL, evL, getL]
                  refine HL_want ?_ ?_
                  · exact wantT (j := 2) (b := false) (t := 76) (c := decide (u70.1 < 0)) rfl rfl rfl rfl hb90
                  refine o_move ?_
                  try dsimp only [putL, setL, evL, getL]
                  replace H := headE H
                  obtain ⟨u91, hu91, H⟩ := H
                  refine HL_want ?_ ?_
                  · exact wantT (j := 2) (b := false) (t := 76) (c := decide (u70.1 < 0)) rfl rfl rfl rfl hb90
                  refine o_call (args := #[.slice A30 u29.1.length c30, .slice A21 u20.1.length c21]) Try.func43 rfl rfl rfl (laws_eqSpanS.ok s70 s70 no A30 c30 u29.1 A21 c21 u20.1 (hH.rd 3 rfl) (hH.rd 0 rfl) (Hp.own (Bs.refl s70)) _ hu91) ?_
                  rintro _ s91 ⟨rfl, hD⟩
                  replace hH := hH.back0T hD
                  clear hD
                  dsimp only [addC, setC, rmC, selC, getC] at hH
                  try dsimp only [putL, setL, evL, getL]
                  refine HL_want ?_ ?_
                  · exact wantT (j := 2) (b := false) (t := 76) (c := decide (u70.1 < 0)) rfl rfl rfl rfl hb90
                  refine o_not rfl ?_
                  try dsimp only [putL, setL, evL, getL]
                  refine HL_cons rfl ?_
                  refine o_pickF rfl hb90 ?_
                  try dsimp only [putL, setL, evL, getL]
                  refine HL_cons rfl ?_
                  refine o_move ?_
                  try dsimp only [putL, setL, evL, getL]
                  rcases Bool.eq_false_or_eq_true (!u91) with hb92 | hb92
                  · replace H := iteT hb92 H
                    refine HL_skip ?_ ?_
                    · exact wantF (j := 8) (b := false) (t := 82) (c := !u91) rfl rfl rfl rfl hb92
                    try dsimp only [putL, setL, evL, getL]
                    refine HL_skip ?_ ?_
                    · exact wantF (j := 8) (b := false) (t := 82) (c := !u91) rfl rfl rfl rfl hb92
                    try dsimp only [putL, setL, evL, getL]
                    refine HL_skip ?_ ?_
                    · exact wantF (j := 8) (b := false) (t := 82) (c := !u91) rfl rfl rfl rfl hb92
                    try dsimp only [putL, setL, evL, getL]
                    refine HL_cons rfl ?_
                    refine o_pickT rfl hb92 ?_
                    try dsimp only [putL, setL, evL, getL]
                    refine HL_nil ?_
                    exact hK85 _ _ ⟨true, H, rfl, hH.sel [0, 3] (by decide)⟩
                  · replace H := iteF hb92 H
                    refine HL_want ?_ ?_
                    · exact wantT (j := 8) (b := false) (t := 82) (c := !u91) rfl rfl rfl rfl hb92
                    refine o_move ?_
                    try dsimp only [putL, setL, evL, getL]
                    refine HL_want ?_ ?_
                    · exact wantT (j := 8) (b := false) (t := 82) (c := !u91) rfl rfl rfl rfl hb92
                    refine o_move ?_
                    try dsimp only [putL, setL, evL, getL]
                    refine HL_want ?_ ?_
                    · exact wantT (j := 8) (b := false) (t := 82) (c := !u91) rfl rfl rfl rfl hb92
                    refine o_neb rfl rfl Try.underlying4 ?_
                    try dsimp only [putL, setL, evL, getL]
                    refine HL_cons rfl ?_
                    refine o_pickF rfl hb92 ?_
                    try dsimp only [putL, setL, evL, getL]
                    refine HL_nil ?_
                    exact hK85 _ _ ⟨u29.2 != u20.2, H, rfl, hH.sel [0, 3] (by decide)⟩
              · rintro l' s93 ⟨x89, H, hl, hH⟩
                generalize getL l' 74 = j74, getL l' 75 = j75, getL l' 76 = j76, getL l' 77 = j77, getL l' 78 = j78, getL l' 79 = j79, getL l' 80 = j80, getL l' 81 = j81, getL l' 82 = j82, getL l' 83 = j83, getL l' 84 = j84, getL l' 85 = j85 at hl
                subst hl
                replace H := hG85 _ H
                try dsimp only at H
                rcases Bool.eq_false_or_eq_true x89 with hb94 | hb94
                · replace H := iteT hb94 H
                  refine HT_true (congrArg Value.bool hb94) ?_
                  refine HT_seq_k ?_
                  intro K95 hK95
                  refine HT_region ?_
                  refine HL_cons rfl ?_
                  refine o_assign ?_
                  try dsimp only [putL, setL, evL, getL]
                  refine HL_nil ?_
                  refine hK95 _ _ ?_
                  refine HT_ret ?_
                  exact hQr _ _ [.bool false] ⟨rfl, trivial⟩ (retH (fun r => laws_FnExactSpansOf.post sb s F0 r _ _) (show some _ = some r from H) ⟨rfl, hH.sel [] (by decide)⟩)
                · replace H := iteF hb94 H
                  refine HT_false (congrArg Value.bool hb94) ?_
                  refine HT_skip ?_
                  refine hK84 _ _ ?_
                  refine HT_seq_k ?_
                  intro K96 hK96
                  refine HT_region ?_
                  refine HL_cons rfl ?_
                  refine o_assign ?_
                  try dsimp only [putL, setL, evL, getL]
                  refine HL_nil ?_
                  refine hK96 _ _ ?_
                  refine HT_seq_k ?_
                  intro K97 hK97
                  refine HT_region ?_
                  refine HL_cons rfl ?_
                  refine o_move ?_
                  try dsimp only [putL, setL, evL, getL]
                  refine HL_cons rfl ?_
                  refine o_move ?_
                  try dsimp only [putL, setL, evL, getL]
                  replace H := headE H
                  obtain ⟨u98, hu98, H⟩ := H
                  obtain ⟨F1, hA, hB⟩ := hH.take [1] (by decide)
                  dsimp only [addC, setC, rmC, selC, getC] at hA
                  refine HL_cons rfl ?_
                  refine o_call (args := #[.slice A30 u29.1.length c30, .int .i64 1]) Try.func46 rfl rfl rfl (laws_markSpanS.ok sb s93 F1 A30 c30 u29.1 1 hA _ hu98) ?_
                  rintro _ s98 ⟨rfl, hD, hl99⟩
                  replace hH := hB _ _ _ (Up.refl _ _ _) hD
                  clear hD hA hB
                  dsimp only [addC, setC, rmC, selC, getC] at hH
                  try dsimp only [putL, setL, evL, getL]
                  refine HL_cons rfl ?_
                  refine o_assign ?_
                  try dsimp only [putL, setL, evL, getL]
                  refine HL_nil ?_
                  refine hK97 _ _ ?_
                  refine HT_seq_k ?_
                  intro K100 hK100
                  refine HT_region ?_
                  refine HL_cons rfl ?_
                  refine o_assign ?_
                  try dsimp only [putL, setL, evL, getL]
                  refine HL_nil ?_
                  refine hK100 _ _ ?_
                  refine HT_seq_k ?_
                  intro K101 hK101
                  refine HT_region ?_
                  refine HL_cons rfl ?_
                  refine o_move ?_
                  try dsimp only [putL, setL, evL, getL]
                  refine HL_cons rfl ?_
                  refine o_move ?_
                  try dsimp only [putL, setL, evL, getL]
                  replace H := headE H
                  obtain ⟨u102, hu102, H⟩ := H
                  refine HL_cons rfl ?_
                  refine o_call (args := #[.slice A30 u98.2.length c30, .int .i64 1]) Try.func47 rfl rfl (by show ([.slice A30 u29.1.length c30, .int .i64 1] : List Value) = [.slice A30 u98.2.length c30, .int .i64 1]; rw [hl99]; first | done | rfl) (laws_heldSpanS.ok s98 s98 no A30 c30 u98.2 1 (hH.rd 2 rfl) (Hp.own (Bs.refl s98)) _ hu102) ?_
                  rintro _ s102 ⟨rfl, hD⟩
                  replace hH := hH.back0T hD
                  clear hD
                  dsimp only [addC, setC, rmC, selC, getC] at hH
                  try dsimp only [putL, setL, evL, getL]
                  refine HL_cons rfl ?_
                  refine o_assign ?_
                  try dsimp only [putL, setL, evL, getL]
                  refine HL_nil ?_
                  refine hK101 _ _ ?_
                  refine HT_seq_k ?_
                  intro K103 hK103
                  refine HT_seq_k ?_
                  intro K104 hK104
                  refine HT_region ?_
                  refine HL_cons rfl ?_
                  refine o_move ?_
                  try dsimp only [putL, setL, evL, getL]
                  refine HL_cons rfl ?_
                  refine o_bin rfl rfl rfl ?_
                  try dsimp only [putL, setL, evL, getL]
                  refine HL_nil ?_
                  refine hK104 _ _ ?_
                  rcases Bool.eq_false_or_eq_true (decide (u102 < 0)) with hb105 | hb105
                  · replace H := iteT hb105 H
                    refine HT_true (congrArg Value.bool hb105) ?_
                    refine HT_seq_k ?_
                    intro K106 hK106
                    refine HT_region ?_
                    refine HL_cons rfl ?_
                    refine o_assign ?_
                    try dsimp only [putL, setL, evL, getL]
                    refine HL_nil ?_
                    refine hK106 _ _ ?_
                    refine HT_ret ?_
                    exact hQr _ _ [.bool false] ⟨rfl, trivial⟩ (retH (fun r => laws_FnExactSpansOf.post sb s F0 r _ _) (show some _ = some r from H) ⟨rfl, hH.sel [] (by decide)⟩)
                  · replace H := iteF hb105 H
                    refine HT_false (congrArg Value.bool hb105) ?_
                    refine HT_skip ?_
                    refine hK103 _ _ ?_
                    refine HT_seq_k ?_
                    intro K107 hK107
                    refine HT_seq_k ?_
                    intro K108 hK108
                    refine HT_region ?_
                    refine HL_cons rfl ?_
                    refine o_move ?_
                    try dsimp only [putL, setL, evL, getL]
                    refine HL_cons rfl ?_
                    refine o_move ?_
                    try dsimp only [putL, setL, evL, getL]
                    refine HL_cons rfl ?_
                    refine o_bin rfl rfl rfl ?_
                    try dsimp only [putL, setL, evL, getL]
                    refine HL_nil ?_
                    refine hK108 _ _ ?_
                    rcases Bool.eq_false_or_eq_true (u102 != u98.1) with hb109 | hb109
                    · replace H := iteT hb109 H
                      refine HT_true (congrArg Value.bool hb109) ?_
                      refine HT_seq_k ?_
                      intro K110 hK110
                      refine HT_region ?_
                      refine HL_cons rfl ?_
                      refine o_assign ?_
                      try dsimp only [putL, setL, evL, getL]
                      refine HL_nil ?_
                      refine hK110 _ _ ?_
                      refine HT_ret ?_
                      exact hQr _ _ [.bool false] ⟨rfl, trivial⟩ (retH (fun r => laws_FnExactSpansOf.post sb s F0 r _ _) (show some _ = some r from H) ⟨rfl, hH.sel [] (by decide)⟩)
                    · replace H := iteF hb109 H
                      refine HT_false (congrArg Value.bool hb109) ?_
                      refine HT_skip ?_
                      refine hK107 _ _ ?_
                      refine HT_seq_k ?_
                      intro K111 hK111
                      refine HT_region ?_
                      refine HL_cons rfl ?_
                      refine o_move ?_
                      try dsimp only [putL, setL, evL, getL]
                      replace H := headE H
                      obtain ⟨u112, hu112, H⟩ := H
                      refine HL_cons rfl ?_
                      refine o_call (args := #[.slice A0p p0.length c0p]) Try.func40 rfl rfl rfl (laws_toReS.ok sb s102 no A0p c0p p0 HRp0 (Hp.own hH.bs) _ hu112) ?_
                      rintro _ s112 ⟨A113, c113, rfl, hD⟩
                      replace hH := hH.back0 hD (Up.refl _ _ _)
                      clear hD
                      dsimp only [addC, setC, rmC, selC, getC] at hH
                      try dsimp only [putL, setL, evL, getL]
                      refine HL_cons rfl ?_
                      refine o_move ?_
                      try dsimp only [putL, setL, evL, getL]
                      replace H := headE H
                      obtain ⟨u114, hu114, H⟩ := H
                      refine HL_cons rfl ?_
                      refine o_call (args := #[.slice A1p p1.length c1p]) Try.func41 rfl rfl rfl (laws_toSpanS.ok sb s112 no A1p c1p p1 HRp1 (Hp.own hH.bs) _ hu114) ?_
                      rintro _ s114 ⟨A115, c115, rfl, hD⟩
                      replace hH := hH.back0 hD (Up.refl _ _ _)
                      clear hD
                      dsimp only [addC, setC, rmC, selC, getC] at hH
                      try dsimp only [putL, setL, evL, getL]
                      refine HL_cons rfl ?_
                      refine o_move ?_
                      try dsimp only [putL, setL, evL, getL]
                      replace H := headE H
                      obtain ⟨u116, hu116, H⟩ := H
                      refine HL_cons rfl ?_
                      refine o_call (args := #[.slice A113 u112.length c113, .slice A115 u114.length c115, .int .i64 p2]) Try.func42 rfl rfl rfl (impl_SpansOf.ok s114 s114 no A113 c113 u112 A115 c115 u114 p2 (hH.rd 3 rfl) (hH.rd 4 rfl) (Hp.own (Bs.refl s114)) _ hu116) ?_
                      rintro _ s116 ⟨A117, c117, rfl, hD⟩
                      replace hH := hH.back0T hD
                      clear hD
                      dsimp only [addC, setC, rmC, selC, getC] at hH
                      try dsimp only [putL, setL, evL, getL]
                      refine HL_cons rfl ?_
                      refine o_move ?_
                      try dsimp only [putL, setL, evL, getL]
                      refine HL_cons rfl ?_
                      refine o_extract rfl rfl ?_
                      try dsimp only [putL, setL, evL, getL]
                      refine HL_cons rfl ?_
                      refine o_extract rfl rfl ?_
                      try dsimp only [putL, setL, evL, getL]
                      refine HL_cons rfl ?_
                      refine o_assign ?_
                      try dsimp only [putL, setL, evL, getL]
                      refine HL_cons rfl ?_
                      refine o_assign ?_
                      try dsimp only [putL, setL, evL, getL]
                      refine HL_nil ?_
                      refine hK111 _ _ ?_
                      refine HT_seq_k ?_
                      intro K128 hK128
                      refine joinH H fun G129 hG129 H => ?_
                      refine HT_joinK (fun l' s' => ∃ (x132 : Bool), G129 x132 = some r ∧ l' = [.slice A0p p0.length c0p, .slice A1p p1.length c1p, .int .i64 p2, undef, undef, undef, .bool false, .int .i64 u10, .slice A21 u20.1.length c21, .bool u20.2, .slice A24 u23.length c24, .slice A27 u26.length c27, .slice A30 u29.1.length c30, .bool u29.2, .int .i64 u70.1, .int .i64 u98.1, .int .i64 u102, .slice A117 u116.1.length c117, .bool u116.2, .slice A0p p0.length c0p, .int .i64 1048576, .int .i64 u4, .int .i64 u4, .bool (decide (u4 < 0)), .slice A1p p1.length c1p, .int .i64 u4, .int .i64 u10, .int .i64 u10, .bool (decide (u10 < 0)), .tuple #[.slice A21 u20.1.length c21, .bool u20.2], .slice A0p p0.length c0p, .slice A17 u16.length c17, .slice A1p p1.length c1p, .slice A19 u18.length c19, .int .i64 p2, .tuple #[.slice A21 u20.1.length c21, .bool u20.2], .slice A21 u20.1.length c21, .bool u20.2, .slice A0p p0.length c0p, .slice A24 u23.length c24, .slice A1p p1.length c1p, .slice A27 u26.length c27, .tuple #[.slice A30 u29.1.length c30, .bool u29.2], .slice A24 u23.length c24, .slice A27 u26.length c27, .int .i64 p2, .tuple #[.slice A30 u29.1.length c30, .bool u29.2], .slice A30 u29.1.length c30, .bool u29.2, j49, j50, j51, j52, j53, j54, j55, j56, .bool x45, .slice A24 u23.length c24, .slice A0p p0.length c0p, .slice A54 u53.length c54, .bool u55, .bool (!u55), .slice A27 u26.length c27, .slice A1p p1.length c1p, .slice A61 u60.length c61, .bool u62, .bool (!u62), .slice A24 u23.length c24, .int .i64 1, .int .i64 u67.1, .slice A27 u26.length c27, .int .i64 u67.1, .int .i64 u70.1, j74, j75, j76, j77, j78, j79, j80, j81, j82, j83, j84, j85, .bool x89, .slice A30 u29.1.length c30, .int .i64 1, .int .i64 u98.1, .slice A30 u29.1.length c30, .int .i64 1, .int .i64 u102, .int .i64 u102, .bool (decide (u102 < 0)), .int .i64 u102, .int .i64 u98.1, .bool (u102 != u98.1), .tuple #[.slice A117 u116.1.length c117, .bool u116.2], .slice A0p p0.length c0p, .slice A113 u112.length c113, .slice A1p p1.length c1p, .slice A115 u114.length c115, .int .i64 p2, .tuple #[.slice A117 u116.1.length c117, .bool u116.2], .slice A117 u116.1.length c117, .bool u116.2, getL l' 107, getL l' 108, getL l' 109, getL l' 110, getL l' 111, getL l' 112, getL l' 113, getL l' 114, .bool x132, undef, undef, undef, undef, undef, undef, undef, undef] ∧ Hp sb s F0 s' [Ck.ol OS138 138 A30 c30 u98.2]) ?_ ?_
                      · intro K129 hK129
                        refine HT_region ?_
                        refine HL_cons rfl ?_
                        refine o_move ?_
                        try dsimp only [putL, setL, evL, getL]
                        refine HL_cons rfl ?_
                        refine o_move ?_
                        try dsimp only [putL, setL, evL, getL]
                        replace H := headE H
                        obtain ⟨u133, hu133, H⟩ := H
                        refine HL_cons rfl ?_
                        refine o_call (args := #[.slice A117 u116.1.length c117, .slice A21 u20.1.length c21]) Try.func43 rfl rfl rfl (laws_eqSpanS.ok s116 s116 no A117 c117 u116.1 A21 c21 u20.1 (hH.rd 5 rfl) (hH.rd 0 rfl) (Hp.own (Bs.refl s116)) _ hu133) ?_
                        rintro _ s133 ⟨rfl, hD⟩
                        replace hH := hH.back0T hD
                        clear hD
                        dsimp only [addC, setC, rmC, selC, getC] at hH
                        try dsimp only [putL, setL, evL, getL]
                        refine HL_cons rfl ?_
                        refine o_not rfl ?_
                        try dsimp only [putL, setL, evL, getL]
                        refine HL_cons rfl ?_
                        refine o_move ?_
                        try dsimp only [putL, setL, evL, getL]
                        rcases Bool.eq_false_or_eq_true (!u133) with hb134 | hb134
                        · replace H := iteT hb134 H
                          refine HL_skip ?_ ?_
                          · exact wantF (j := 4) (b := false) (t := 111) (c := !u133) rfl rfl rfl rfl hb134
                          try dsimp only [putL, setL, evL, getL]
                          refine HL_skip ?_ ?_
                          · exact wantF (j := 4) (b := false) (t := 111) (c := !u133) rfl rfl rfl rfl hb134
                          try dsimp only [putL, setL, evL, getL]
                          refine HL_skip ?_ ?_
                          · exact wantF (j := 4) (b := false) (t := 111) (c := !u133) rfl rfl rfl rfl hb134
                          try dsimp only [putL, setL, evL, getL]
                          refine HL_cons rfl ?_
                          refine o_pickT rfl hb134 ?_
                          try dsimp only [putL, setL, evL, getL]
                          refine HL_nil ?_
                          exact hK129 _ _ ⟨true, H, rfl, hH.sel [2] (by decide)⟩
                        · replace H := iteF hb134 H
                          refine HL_want ?_ ?_
                          · exact wantT (j := 4) (b := false) (t := 111) (c := !u133) rfl rfl rfl rfl hb134
                          refine o_move ?_
                          try dsimp only [putL, setL, evL, getL]
                          refine HL_want ?_ ?_
                          · exact wantT (j := 4) (b := false) (t := 111) (c := !u133) rfl rfl rfl rfl hb134
                          refine o_move ?_
                          try dsimp only [putL, setL, evL, getL]
                          refine HL_want ?_ ?_
                          · exact wantT (j := 4) (b := false) (t := 111) (c := !u133) rfl rfl rfl rfl hb134
                          refine o_neb rfl rfl Try.underlying4 ?_
                          try dsimp only [putL, setL, evL, getL]
                          refine HL_cons rfl ?_
                          refine o_pickF rfl hb134 ?_
                          try dsimp only [putL, setL, evL, getL]
                          refine HL_nil ?_
                          exact hK129 _ _ ⟨u116.2 != u20.2, H, rfl, hH.sel [2] (by decide)⟩
                      · rintro l' s135 ⟨x132, H, hl, hH⟩
                        generalize getL l' 107 = j107, getL l' 108 = j108, getL l' 109 = j109, getL l' 110 = j110, getL l' 111 = j111, getL l' 112 = j112, getL l' 113 = j113, getL l' 114 = j114 at hl
                        subst hl
                        replace H := hG129 _ H
                        try dsimp only at H
                        rcases Bool.eq_false_or_eq_true x132 with hb136 | hb136
                        · replace H := iteT hb136 H
                          refine HT_true (congrArg Value.bool hb136) ?_
                          refine HT_seq_k ?_
                          intro K137 hK137
                          refine HT_region ?_
                          refine HL_cons rfl ?_
                          refine o_assign ?_
                          try dsimp only [putL, setL, evL, getL]
                          refine HL_nil ?_
                          refine hK137 _ _ ?_
                          refine HT_ret ?_
                          exact hQr _ _ [.bool false] ⟨rfl, trivial⟩ (retH (fun r => laws_FnExactSpansOf.post sb s F0 r _ _) (show some _ = some r from H) ⟨rfl, hH.sel [] (by decide)⟩)
                        · replace H := iteF hb136 H
                          refine HT_false (congrArg Value.bool hb136) ?_
                          refine HT_skip ?_
                          refine hK128 _ _ ?_
                          refine HT_seq_k ?_
                          intro K138 hK138
                          refine HT_region ?_
                          refine HL_cons rfl ?_
                          refine o_assign ?_
                          try dsimp only [putL, setL, evL, getL]
                          refine HL_nil ?_
                          refine hK138 _ _ ?_
                          refine HT_seq_k ?_
                          intro K139 hK139
                          refine HT_region ?_
                          refine HL_cons rfl ?_
                          refine o_move ?_
                          try dsimp only [putL, setL, evL, getL]
                          refine HL_cons rfl ?_
                          refine o_move ?_
                          try dsimp only [putL, setL, evL, getL]
                          replace H := headE H
                          obtain ⟨u140, hu140, H⟩ := H
                          refine HL_cons rfl ?_
                          refine o_call (args := #[.slice A30 u98.2.length c30, .int .i64 1]) Try.func47 rfl rfl (by show ([.slice A30 u29.1.length c30, .int .i64 1] : List Value) = [.slice A30 u98.2.length c30, .int .i64 1]; rw [hl99]; first | done | rfl) (laws_heldSpanS.ok s135 s135 no A30 c30 u98.2 1 (hH.rd 0 rfl) (Hp.own (Bs.refl s135)) _ hu140) ?_
                          rintro _ s140 ⟨rfl, hD⟩
                          replace hH := hH.back0T hD
                          clear hD
                          dsimp only [addC, setC, rmC, selC, getC] at hH
                          try dsimp only [putL, setL, evL, getL]
                          refine HL_cons rfl ?_
                          refine o_assign ?_
                          try dsimp only [putL, setL, evL, getL]
                          refine HL_nil ?_
                          refine hK139 _ _ ?_
                          refine HT_seq_k ?_
                          intro K141 hK141
                          refine HT_seq_k ?_
                          intro K142 hK142
                          refine HT_region ?_
                          refine HL_cons rfl ?_
                          refine o_move ?_
                          try dsimp only [putL, setL, evL, getL]
                          refine HL_cons rfl ?_
                          refine o_bin rfl rfl rfl ?_
                          try dsimp only [putL, setL, evL, getL]
                          refine HL_nil ?_
                          refine hK142 _ _ ?_
                          rcases Bool.eq_false_or_eq_true (decide (u140 < 0)) with hb143 | hb143
                          · replace H := iteT hb143 H
                            refine HT_true (congrArg Value.bool hb143) ?_
                            refine HT_seq_k ?_
                            intro K144 hK144
                            refine HT_region ?_
                            refine HL_cons rfl ?_
                            refine o_assign ?_
                            try dsimp only [putL, setL, evL, getL]
                            refine HL_nil ?_
                            refine hK144 _ _ ?_
                            refine HT_ret ?_
                            exact hQr _ _ [.bool false] ⟨rfl, trivial⟩ (retH (fun r => laws_FnExactSpansOf.post sb s F0 r _ _) (show some _ = some r from H) ⟨rfl, hH.sel [] (by decide)⟩)
                          · replace H := iteF hb143 H
                            refine HT_false (congrArg Value.bool hb143) ?_
                            refine HT_skip ?_
                            refine hK141 _ _ ?_
                            refine HT_seq_k ?_
                            intro K145 hK145
                            refine HT_seq_k ?_
                            intro K146 hK146
                            refine HT_region ?_
                            refine HL_cons rfl ?_
                            refine o_move ?_
                            try dsimp only [putL, setL, evL, getL]
                            refine HL_cons rfl ?_
                            refine o_move ?_
                            try dsimp only [putL, setL, evL, getL]
                            refine HL_cons rfl ?_
                            refine o_bin rfl rfl rfl ?_
                            try dsimp only [putL, setL, evL, getL]
                            refine HL_nil ?_
                            refine hK146 _ _ ?_
                            rcases Bool.eq_false_or_eq_true (u140 != u98.1) with hb147 | hb147
                            · replace H := iteT hb147 H
                              refine HT_true (congrArg Value.bool hb147) ?_
                              refine HT_seq_k ?_
                              intro K148 hK148
                              refine HT_region ?_
                              refine HL_cons rfl ?_
                              refine o_assign ?_
                              try dsimp only [putL, setL, evL, getL]
                              refine HL_nil ?_
                              refine hK148 _ _ ?_
                              refine HT_ret ?_
                              exact hQr _ _ [.bool false] ⟨rfl, trivial⟩ (retH (fun r => laws_FnExactSpansOf.post sb s F0 r _ _) (show some _ = some r from H) ⟨rfl, hH.sel [] (by decide)⟩)
                            · replace H := iteF hb147 H
                              refine HT_false (congrArg Value.bool hb147) ?_
                              refine HT_skip ?_
                              refine hK145 _ _ ?_
                              refine HT_seq_k ?_
                              intro K149 hK149
                              refine HT_region ?_
                              refine HL_cons rfl ?_
                              refine o_assign ?_
                              try dsimp only [putL, setL, evL, getL]
                              refine HL_nil ?_
                              refine hK149 _ _ ?_
                              refine HT_ret ?_
                              exact hQr _ _ [.bool true] ⟨rfl, trivial⟩ (retH (fun r => laws_FnExactSpansOf.post sb s F0 r _ _) (show some _ = some r from H) ⟨rfl, hH.sel [] (by decide)⟩)
end Go.Proofs.Ytkieinlcpkpcjaa
