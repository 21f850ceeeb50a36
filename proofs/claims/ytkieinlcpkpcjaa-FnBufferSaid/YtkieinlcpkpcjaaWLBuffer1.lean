/- The functions that the law reaches, as plain functions, each with its contract: printed by a program of the prover's. No conditions: lemmas. -/
import Derived.Test.YtkieinlcpkpcjaaWLBuffer0
set_option linter.unusedVariables false
set_option linter.unusedSimpArgs false
namespace Go.Proofs.Ytkieinlcpkpcjaa
open Go Go.Proofs.GL
def slices_Clone_int_int.f (p0 : List (Int)) : Option (List (Int)) := app? 17592186044416 [] p0
def slices_Clone_int_int.post (sb s : St) (F0 : Fp) (r : List (Int)) : Value → St → Prop := fun v s' => ∃ (A0 : Option Addr) (c0 : Nat), v = .slice A0 r.length c0 ∧ Hp sb s F0 s' [Ck.ol OI 3 A0 c0 r]
set_option maxRecDepth 100000 in
set_option maxHeartbeats 4000000 in
theorem slices_Clone_int_int.ok (sb s : St) (F0 : Fp) (A0p : Option Addr) (c0p : Nat) (p0 : List (Int)) (HRp0 : Rd KI sb A0p c0p p0) (hH : Hp sb s F0 s []) (r : List (Int)) (H : slices_Clone_int_int.f p0 = some r) : GCall Try.prog 141 #[.slice A0p p0.length c0p] s (slices_Clone_int_int.post sb s F0 r) := by
  refine GCall_ofk [.tmp 2] [.slice A0p p0.length c0p, undef, undef, undef, undef, undef, undef, undef] Try.func141 rfl rfl rfl ?_
  intro w Q hQr hQn hQp
  unfold slices_Clone_int_int.f at H
  refine HT_seq_k ?_
  intro K1 hK1
  refine HT_region ?_
  refine HL_cons rfl ?_
  refine o_assign ?_
  refine HL_nil ?_
  refine hK1 _ _ ?_
  refine HT_seq_k ?_
  intro K2 hK2
  refine HT_seq_k ?_
  intro K3 hK3
  refine HT_region ?_
  refine HL_cons rfl ?_
  refine o_move ?_
  dsimp only [putL, setL, evL, getL]
  refine HL_cons rfl ?_
  refine o_eqN rfl rfl Try.underlying24 ?_
  dsimp only [putL, setL, evL, getL]
  refine HL_nil ?_
  refine hK3 _ _ ?_
  cases A0p with
  | none =>
    have hp : p0 = [] := by
      by_cases h : p0 = []
      · exact h
      · obtain ⟨b, o, hA, _⟩ := HRp0.2.2 h
        cases hA
    subst hp
    obtain ⟨_, rfl⟩ := app?_some H
    refine HT_true rfl ?_
    refine HT_seq_k ?_
    intro K4 hK4
    refine HT_region ?_
    refine HL_cons rfl ?_
    refine o_assign ?_
    dsimp only [putL, setL, evL, getL]
    refine HL_nil ?_
    refine hK4 _ _ ?_
    refine HT_ret ?_
    exact hQr _ _ [.slice none 0 0] ⟨rfl, trivial⟩ ⟨none, 0, rfl, hH.nil (K := KI) OI 3⟩
  | some a =>
    refine HT_false rfl ?_
    refine HT_skip ?_
    refine hK2 _ _ ?_
    refine HT_seq_k ?_
    intro K4 hK4
    refine HT_region ?_
    refine HL_cons rfl ?_
    refine o_lit0H (α := Int) (K := KI) (O := OI) hH Try.underlying24 tI3 ?_
    intro A1 s1 hH hG
    dsimp only [putL, setL, evL, getL]
    refine HL_cons rfl ?_
    refine o_move ?_
    dsimp only [putL, setL, evL, getL]
    refine HL_cons rfl ?_
    refine o_appF (n := 17592186044416) (A := A1) (c := 0) (xs := ([] : List (Int))) (ys := p0) (B := some a) (c2 := c0p) hH 0 rfl rfl rfl rfl Try.underlying24 tI3 rfl (by decide) (by decide) (by decide) (Src.flat (HRp0.mono hH.bs.mono)) H ?_
    intro A2 c2 s2 hH
    dsimp only [putL, setL, evL, getL]
    refine HL_cons rfl ?_
    refine o_assign ?_
    dsimp only [putL, setL, evL, getL]
    refine HL_nil ?_
    refine hK4 _ _ ?_
    refine HT_ret ?_
    exact hQr _ _ [.slice A2 r.length c2] ⟨rfl, trivial⟩ ⟨A2, c2, rfl, hH⟩
def impl_Buf_clone.f (p0_0 : Int) (p0_1 : List (Int)) (p0_2 : List (Int)) (p0_3 : Int) : Option (Int × (List (Int)) × (List (Int)) × Int) := (slices_Clone_int_int.f p0_1).bind fun u5 => (slices_Clone_int_int.f p0_2).bind fun u7 => some (p0_0, u5, u7, p0_3)
def impl_Buf_clone.post (sb s : St) (F0 : Fp) (r : Int × (List (Int)) × (List (Int)) × Int) : Value → St → Prop := fun v s' => ∃ (A1 : Option Addr) (c1 : Nat) (A2 : Option Addr) (c2 : Nat), v = .agg #[.int .i64 r.1, .slice A1 r.2.1.length c1, .slice A2 r.2.2.1.length c2, .int .i64 r.2.2.2] ∧ Hp sb s F0 s' [Ck.ol OI 3 A1 c1 r.2.1, Ck.ol OI 3 A2 c2 r.2.2.1]
set_option maxRecDepth 100000 in
set_option maxHeartbeats 4000000 in
theorem impl_Buf_clone.ok (sb s : St) (F0 : Fp) (p0_0 : Int) (A0_1p : Option Addr) (c0_1p : Nat) (p0_1 : List (Int)) (A0_2p : Option Addr) (c0_2p : Nat) (p0_2 : List (Int)) (p0_3 : Int) (HRp0_1 : Rd KI sb A0_1p c0_1p p0_1) (HRp0_2 : Rd KI sb A0_2p c0_2p p0_2) (hH : Hp sb s F0 s []) (r : Int × (List (Int)) × (List (Int)) × Int) (H : impl_Buf_clone.f p0_0 p0_1 p0_2 p0_3 = some r) : GCall Try.prog 116 #[.agg #[.int .i64 p0_0, .slice A0_1p p0_1.length c0_1p, .slice A0_2p p0_2.length c0_2p, .int .i64 p0_3]] s (impl_Buf_clone.post sb s F0 r) := by
  refine GCall_ofk [.cell 2 37] [.agg #[.int .i64 p0_0, .slice A0_1p p0_1.length c0_1p, .slice A0_2p p0_2.length c0_2p, .int .i64 p0_3], undef, undef, undef, undef, undef, undef, undef, undef, undef, undef, undef] Try.func116 rfl rfl rfl ?_
  intro w Q hQr hQn hQp
  replace H := topE H
  unfold impl_Buf_clone.f at H
  refine HT_seq_k ?_
  intro K1 hK1
  refine HT_region ?_
  refine HL_cons rfl ?_
  refine o_boxH hH rfl ?_
  intro b2 s2 hH' hG
  replace hH : Hp sb s F0 s2 [Ck.ov b2 [.int .i64 p0_0, .slice A0_1p p0_1.length c0_1p, .slice A0_2p p0_2.length c0_2p, .int .i64 p0_3] 37] := hH'
  clear hH' hG
  try dsimp only [putL, setL, evL, getL]
  refine HL_cons rfl ?_
  refine o_allocH hH tI37 ?_
  intro b3 s3 hH' hG
  replace hH : Hp sb s F0 s3 [Ck.ov b2 [.int .i64 p0_0, .slice A0_1p p0_1.length c0_1p, .slice A0_2p p0_2.length c0_2p, .int .i64 p0_3] 37, Ck.ov b3 [.int .i64 0, .slice none 0 0, .slice none 0 0, .int .i64 0] 37] := hH'
  clear hH' hG
  try dsimp only [putL, setL, evL, getL]
  refine HL_nil ?_
  refine hK1 _ _ ?_
  refine HT_seq_k ?_
  intro K4 hK4
  refine HX_draw hMix ?_
  refine HX_lim (R := fun _ => True) (k := 0) (fun s' => Gro s3 s') 7 ?_
  have hR := Gro.refl s3
  have hH0 := hH
  refine HK_readP 0 (v := .pointer (some ⟨b2, 0 + 1, none⟩)) rfl (by kernel_rfl) (fun c l s h => hQp c l s h) rfl (fun s' K hK => ?_) rfl rfl (fun _ => hR) ?_
  · refine o_faddr' (ft := 24) (off := 1) rfl Try.underlying37 rfl tI24 (by decide) ?_
    exact hK
  try dsimp only [putL, setL, evL, getL]
  refine HK_read 1 (v := .slice A0_1p p0_1.length c0_1p) rfl (by kernel_rfl) (fun c l s h => hQp c l s h) rfl (fun s' hR' K hK => ?_) rfl rfl hR ?_
  · refine o_load' rfl Try.underlying24 rfl (has_gro hR' (hH0.hasv 0 rfl rfl)) ?_
    exact hK
  try dsimp only [putL, setL, evL, getL]
  refine HK_readP 3 (v := .pointer (some ⟨b2, 0 + 2, none⟩)) rfl (by kernel_rfl) (fun c l s h => hQp c l s h) rfl (fun s' K hK => ?_) rfl rfl (fun _ => hR) ?_
  · refine o_faddr' (ft := 24) (off := 2) rfl Try.underlying37 rfl tI24 (by decide) ?_
    exact hK
  try dsimp only [putL, setL, evL, getL]
  refine HK_read 4 (v := .slice A0_2p p0_2.length c0_2p) rfl (by kernel_rfl) (fun c l s h => hQp c l s h) rfl (fun s' hR' K hK => ?_) rfl rfl hR ?_
  · refine o_load' rfl Try.underlying24 rfl (has_gro hR' (hH0.hasv 0 rfl rfl)) ?_
    exact hK
  try dsimp only [putL, setL, evL, getL]
  refine HK_more [2] (by kernel_rfl) rfl (fun _ => hR) ⟨⟨_, rfl, Or.inl ⟨rfl, ?_⟩⟩, trivial⟩
  replace H := headE H
  obtain ⟨u5, hu5, H⟩ := H
  skip
  refine o_call (args := #[.slice A0_1p p0_1.length c0_1p]) Try.func141 rfl rfl rfl (slices_Clone_int_int.ok sb s3 no A0_1p c0_1p p0_1 HRp0_1 (Hp.own hH.bs) _ hu5) ?_
  rintro _ s5 ⟨A6, c6, rfl, hD⟩
  replace hR := hR.trans hD.gro
  replace hH := hH.back0 hD (Up.refl _ _ _)
  clear hD
  dsimp only [addC, setC, rmC, selC, getC] at hH
  try dsimp only [putL, setL, evL, getL]
  refine HK_readP 6 (v := .pointer (some ⟨b2, 0 + 1, none⟩)) rfl (by kernel_rfl) (fun c l s h => hQp c l s h) rfl (fun s' K hK => ?_) rfl rfl (fun _ => hR) ?_
  · refine o_faddr' (ft := 24) (off := 1) rfl Try.underlying37 rfl tI24 (by decide) ?_
    exact hK
  try dsimp only [putL, setL, evL, getL]
  refine HK_more [5] (by kernel_rfl) rfl (fun _ => hR) ⟨⟨_, rfl, Or.inl ⟨rfl, ?_⟩⟩, trivial⟩
  replace H := headE H
  obtain ⟨u7, hu7, H⟩ := H
  skip
  refine o_call (args := #[.slice A0_2p p0_2.length c0_2p]) Try.func141 rfl rfl rfl (slices_Clone_int_int.ok sb s5 no A0_2p c0_2p p0_2 HRp0_2 (Hp.own hH.bs) _ hu7) ?_
  rintro _ s7 ⟨A8, c8, rfl, hD⟩
  replace hR := hR.trans hD.gro
  replace hH := hH.back0 hD (Up.refl _ _ _)
  clear hD
  dsimp only [addC, setC, rmC, selC, getC] at hH
  try dsimp only [putL, setL, evL, getL]
  refine HK_more [7] (by kernel_rfl) rfl (fun _ => hR) ⟨⟨_, rfl, Or.inl ⟨rfl, ?_⟩⟩, trivial⟩
  skip
  refine o_stvH (vs := [.slice A6 u5.length c6]) (us' := [.int .i64 p0_0, .slice A6 u5.length c6, .slice A0_2p p0_2.length c0_2p, .int .i64 p0_3]) hH 0 rfl rfl rfl rfl rfl tI24 rfl (List.cons_ne_nil _ _) rfl rfl rfl ?_
  intro s9 hH'
  replace hH : Hp sb s F0 s9 [Ck.ov b2 [.int .i64 p0_0, .slice A6 u5.length c6, .slice A0_2p p0_2.length c0_2p, .int .i64 p0_3] 37, Ck.ov b3 [.int .i64 0, .slice none 0 0, .slice none 0 0, .int .i64 0] 37, Ck.ol OI 3 A6 c6 u5, Ck.ol OI 3 A8 c8 u7] := hH'
  clear hH'
  try dsimp only [putL, setL, evL, getL]
  refine HK_free (by kernel_rfl) ?_
  refine HX_lim (R := fun _ => True) (k := 0) (fun s' => Gro s9 s') 9 ?_
  have hR := Gro.refl s9
  have hH0 := hH
  refine HK_readP 8 (v := .pointer (some ⟨b2, 0 + 2, none⟩)) rfl (by kernel_rfl) (fun c l s h => hQp c l s h) rfl (fun s' K hK => ?_) rfl rfl (fun _ => hR) ?_
  · refine o_faddr' (ft := 24) (off := 2) rfl Try.underlying37 rfl tI24 (by decide) ?_
    exact hK
  try dsimp only [putL, setL, evL, getL]
  refine HK_more [9] (by kernel_rfl) rfl (fun _ => hR) ⟨⟨_, rfl, Or.inl ⟨rfl, ?_⟩⟩, trivial⟩
  skip
  refine o_stvH (vs := [.slice A8 u7.length c8]) (us' := [.int .i64 p0_0, .slice A6 u5.length c6, .slice A8 u7.length c8, .int .i64 p0_3]) hH 0 rfl rfl rfl rfl rfl tI24 rfl (List.cons_ne_nil _ _) rfl rfl rfl ?_
  intro s10 hH'
  replace hH : Hp sb s F0 s10 [Ck.ov b2 [.int .i64 p0_0, .slice A6 u5.length c6, .slice A8 u7.length c8, .int .i64 p0_3] 37, Ck.ov b3 [.int .i64 0, .slice none 0 0, .slice none 0 0, .int .i64 0] 37, Ck.ol OI 3 A6 c6 u5, Ck.ol OI 3 A8 c8 u7] := hH'
  clear hH'
  try dsimp only [putL, setL, evL, getL]
  refine HK_free (by kernel_rfl) ?_
  refine HX_done (by kernel_rfl) ?_
  refine hK4 _ _ ?_
  refine HT_seq_k ?_
  intro K11 hK11
  refine HT_region ?_
  refine HL_cons rfl ?_
  refine o_loads' [.int .i64 p0_0, .slice A6 u5.length c6, .slice A8 u7.length c8, .int .i64 p0_3] rfl Try.underlying37 rfl tI37 rfl (hH.partv 0 rfl (0) [.int .i64 p0_0, .slice A6 u5.length c6, .slice A8 u7.length c8, .int .i64 p0_3] rfl) ?_
  try dsimp only [putL, setL, evL, getL]
  refine HL_cons rfl ?_
  refine o_stvH (vs := [.int .i64 p0_0, .slice A6 u5.length c6, .slice A8 u7.length c8, .int .i64 p0_3]) (us' := [.int .i64 p0_0, .slice A6 u5.length c6, .slice A8 u7.length c8, .int .i64 p0_3]) hH 1 rfl rfl rfl rfl rfl tI37 rfl (List.cons_ne_nil _ _) rfl rfl rfl ?_
  intro s12 hH'
  replace hH : Hp sb s F0 s12 [Ck.ov b2 [.int .i64 p0_0, .slice A6 u5.length c6, .slice A8 u7.length c8, .int .i64 p0_3] 37, Ck.ov b3 [.int .i64 p0_0, .slice A6 u5.length c6, .slice A8 u7.length c8, .int .i64 p0_3] 37, Ck.ol OI 3 A6 c6 u5, Ck.ol OI 3 A8 c8 u7] := hH'
  clear hH'
  try dsimp only [putL, setL, evL, getL]
  refine HL_nil ?_
  refine hK11 _ _ ?_
  refine HT_ret ?_
  exact hQr _ _ [.agg #[.int .i64 p0_0, .slice A6 u5.length c6, .slice A8 u7.length c8, .int .i64 p0_3]] ⟨ResV.cells rfl Try.underlying37 rfl tI37 (hH.var 1 rfl) rfl, trivial⟩ (retH (fun r => impl_Buf_clone.post sb s F0 r _ _) (show some _ = some r from H) ⟨A6, c6, A8, c8, rfl, hH.sel [2, 3] (by decide)⟩)
def slices_Grow_int_int_nil.f (p1 : Int) : Option (List (Int)) := if (decide (p1 < 0)) = true then none else ((if (decide ((IntKind.i64.wrap (p1 - (IntKind.i64.wrap (0 - 0)))) > 0)) = true then ((cut? ([] : List (Int)) 0 0).bind fun x19 => (mk? 17592186044416 0 (IntKind.i64.wrap (p1 - (IntKind.i64.wrap (0 - 0))))).bind fun x20 => (cut? x20 0 0).bind fun x21 => some x21) else (some [])).bind fun (o : (List (Int))) => match o with | x15 => (some x15))
def slices_Grow_int_int_nil.post (sb s : St) (F0 : Fp) (r : (List (Int))) : Value → St → Prop := fun v s' => ∃ (A0 : Option Addr) (c0 : Nat), v = .slice A0 r.length c0 ∧ Hp sb s F0 s' [Ck.ol OI 3 A0 c0 r]
set_option maxRecDepth 100000 in
set_option maxHeartbeats 4000000 in
theorem slices_Grow_int_int_nil.ok (sb s : St) (F0 : Fp) (p1 : Int) (hH : Hp sb s F0 s []) (r : (List (Int))) (H : slices_Grow_int_int_nil.f p1 = some r) : GCall Try.prog 219 #[.slice none 0 0, .int .i64 p1] s (slices_Grow_int_int_nil.post sb s F0 r) := by
  refine GCall_ofk [.tmp 4] [.slice none 0 0, .int .i64 p1, undef, undef, undef, undef, undef, undef, undef, undef, undef, undef, undef, undef, undef, undef, undef, undef, undef, undef, undef, undef, undef, undef, undef, undef, undef] Try.func219 rfl rfl rfl ?_
  intro w Q hQr hQn hQp
  replace H := topE H
  unfold slices_Grow_int_int_nil.f at H
  refine HT_seq_k ?_
  intro K1 hK1
  refine HT_region ?_
  refine HL_cons rfl ?_
  refine o_assign ?_
  try dsimp only [putL, setL, evL, getL]
  refine HL_nil ?_
  refine hK1 _ _ ?_
  refine HT_seq_k ?_
  intro K5 hK5
  refine HT_seq_k ?_
  intro K6 hK6
  refine HT_region ?_
  refine HL_cons rfl ?_
  refine o_move ?_
  try dsimp only [putL, setL, evL, getL]
  refine HL_cons rfl ?_
  refine o_bin rfl rfl rfl ?_
  try dsimp only [putL, setL, evL, getL]
  refine HL_nil ?_
  refine hK6 _ _ ?_
  rcases Bool.eq_false_or_eq_true (decide (p1 < 0)) with hb7 | hb7
  · replace H := iteT hb7 H
    refine HT_true (congrArg Value.bool hb7) ?_
    cases H
  · replace H := iteF hb7 H
    refine HT_false (congrArg Value.bool hb7) ?_
    refine HT_skip ?_
    refine hK5 _ _ ?_
    refine joinH H fun G8 hG8 H => ?_
    refine HT_joinK (fun l' s' => ∃ (x15 : List (Int)) (A15 : Option Addr) (c15 : Nat), G8 x15 = some r ∧ l' = [.slice A15 x15.length c15, getL l' 1, undef, undef, .slice none 0 0, .int .i64 p1, .bool (decide (p1 < 0)), undef, getL l' 8, getL l' 9, getL l' 10, getL l' 11, getL l' 12, getL l' 13, getL l' 14, getL l' 15, getL l' 16, getL l' 17, getL l' 18, getL l' 19, getL l' 20, getL l' 21, getL l' 22, getL l' 23, getL l' 24, getL l' 25, undef] ∧ Hp sb s F0 s' [Ck.ol OI 3 A15 c15 x15]) ?_ ?_
    · intro K8 hK8
      refine HT_seq_k ?_
      intro K16 hK16
      refine HT_region ?_
      refine HL_cons rfl ?_
      refine o_move ?_
      try dsimp only [putL, setL, evL, getL]
      refine HL_cons rfl ?_
      refine o_move ?_
      try dsimp only [putL, setL, evL, getL]
      refine HL_cons rfl ?_
      refine o_cap rfl Try.underlying24 ?_
      try dsimp only [putL, setL, evL, getL]
      refine HL_cons rfl ?_
      refine o_move ?_
      try dsimp only [putL, setL, evL, getL]
      refine HL_cons rfl ?_
      refine o_len rfl Try.underlying24 ?_
      try dsimp only [putL, setL, evL, getL]
      refine HL_cons rfl ?_
      refine o_bin rfl rfl rfl ?_
      try dsimp only [putL, setL, evL, getL]
      refine HL_cons rfl ?_
      refine o_bin rfl rfl rfl ?_
      try dsimp only [putL, setL, evL, getL]
      refine HL_cons rfl ?_
      refine o_assign ?_
      try dsimp only [putL, setL, evL, getL]
      refine HL_nil ?_
      refine hK16 _ _ ?_
      refine HT_seq_k ?_
      intro K17 hK17
      refine HT_region ?_
      refine HL_cons rfl ?_
      refine o_move ?_
      try dsimp only [putL, setL, evL, getL]
      refine HL_cons rfl ?_
      refine o_bin rfl rfl rfl ?_
      try dsimp only [putL, setL, evL, getL]
      refine HL_nil ?_
      refine hK17 _ _ ?_
      rcases Bool.eq_false_or_eq_true (decide ((IntKind.i64.wrap (p1 - (IntKind.i64.wrap (0 - 0)))) > 0)) with hb18 | hb18
      · replace H := iteT hb18 H
        refine HT_true (congrArg Value.bool hb18) ?_
        refine HT_region ?_
        refine HL_cons rfl ?_
        refine o_move ?_
        try dsimp only [putL, setL, evL, getL]
        refine HL_cons rfl ?_
        refine o_move ?_
        try dsimp only [putL, setL, evL, getL]
        refine HL_cons rfl ?_
        refine o_cap rfl Try.underlying24 ?_
        try dsimp only [putL, setL, evL, getL]
        replace H := headE H
        obtain ⟨x19, hx19, H⟩ := H
        obtain rfl := cut?_nil hx19
        refine HL_cons rfl ?_
        refine o_cutA (xs := ([] : List (Int))) (kl := .i64) (kh := .i64) (L := 0) (H := 0) rfl rfl rfl Try.underlying24 tI3 (Nat.le_refl 0) (ys := []) hx19 ?_
        try dsimp only [putL, setL, evL, getL]
        refine HL_cons rfl ?_
        refine o_move ?_
        try dsimp only [putL, setL, evL, getL]
        replace H := headE H
        obtain ⟨x20, hx20, H⟩ := H
        refine HL_cons rfl ?_
        refine o_appM (K := KI) (O := OI) (x0 := 0) hH rfl rfl Try.underlying24 Try.underlying3 tI3 rfl (by decide) (by decide) (by decide) (Own0.fl fun _ => rfl) hx20 ?_
        intro A20 c20 s20 hH' hG
        replace hH : Hp sb s F0 s20 [Ck.ol OI 3 A20 c20 x20] := hH'
        clear hH' hG
        try dsimp only [putL, setL, evL, getL]
        refine HL_cons rfl ?_
        refine o_move ?_
        try dsimp only [putL, setL, evL, getL]
        refine HL_cons rfl ?_
        refine o_len rfl Try.underlying24 ?_
        try dsimp only [putL, setL, evL, getL]
        replace H := headE H
        obtain ⟨x21, hx21, H⟩ := H
        refine HL_cons rfl ?_
        refine o_cutA (xs := x20) (kl := .i64) (kh := .i64) (L := 0) (H := 0) rfl rfl rfl Try.underlying24 tI3 (hH.rd 0 rfl).1 hx21 ?_
        have D21 := @Der.cut _ _ OI 3 A20 c20 _ _ _ _ hx21
        try dsimp only [putL, setL, evL, getL]
        refine HL_cons rfl ?_
        refine o_assign ?_
        try dsimp only [putL, setL, evL, getL]
        refine HL_nil ?_
        exact hK8 _ _ ⟨x21, (cutA A20 c20 (Int.toNat 0) (Kd.sz KI)), c20 - Int.toNat 0, H, rfl, (hH.cut 0 rfl rfl hx21)⟩
      · replace H := iteF hb18 H
        refine HT_false (congrArg Value.bool hb18) ?_
        refine HT_skip ?_
        exact hK8 _ _ ⟨[], none, 0, H, rfl, (hH.nil (K := KI) OI 3)⟩
    · rintro l' s22 ⟨x15, A15, c15, H, hl, hH⟩
      generalize getL l' 1 = j1, getL l' 8 = j8, getL l' 9 = j9, getL l' 10 = j10, getL l' 11 = j11, getL l' 12 = j12, getL l' 13 = j13, getL l' 14 = j14, getL l' 15 = j15, getL l' 16 = j16, getL l' 17 = j17, getL l' 18 = j18, getL l' 19 = j19, getL l' 20 = j20, getL l' 21 = j21, getL l' 22 = j22, getL l' 23 = j23, getL l' 24 = j24, getL l' 25 = j25 at hl
      subst hl
      replace H := hG8 _ H
      try dsimp only at H
      refine HT_seq_k ?_
      intro K23 hK23
      refine HT_region ?_
      refine HL_cons rfl ?_
      refine o_move ?_
      try dsimp only [putL, setL, evL, getL]
      refine HL_cons rfl ?_
      refine o_assign ?_
      try dsimp only [putL, setL, evL, getL]
      refine HL_nil ?_
      refine hK23 _ _ ?_
      refine HT_ret ?_
      exact hQr _ _ [.slice A15 x15.length c15] ⟨rfl, trivial⟩ (retH (fun r => slices_Grow_int_int_nil.post sb s F0 r _ _) (show some _ = some r from H) ⟨A15, c15, rfl, hH⟩)
def slices_Concat_int_int.l1 (p0 : List (List (Int))) : Nat → Int → Int → Option Int
  | 0, _, _ => none
  | kf + 1, x80, x81 => if (decide (x81 < (p0.length : Int))) = true then ((rd? p0 x81).bind fun u114 => if (decide ((IntKind.i64.wrap (x80 + (u114.length : Int))) < 0)) = true then none else (slices_Concat_int_int.l1 p0 kf (IntKind.i64.wrap (x80 + (u114.length : Int))) (IntKind.i64.wrap (x81 + 1)))) else (some x80)
def slices_Concat_int_int.l2 (p0 : List (List (Int))) : Nat → (List (Int)) → Int → Option (List (Int))
  | 0, _, _ => none
  | kf + 1, x164, x165 => if (decide (x165 < (p0.length : Int))) = true then ((rd? p0 x165).bind fun u182 => (app? 17592186044416 x164 u182).bind fun x184 => slices_Concat_int_int.l2 p0 kf x184 (IntKind.i64.wrap (x165 + 1))) else (some x164)
def slices_Concat_int_int.f (p0 : List (List (Int))) : Option (List (Int)) := (slices_Concat_int_int.l1 p0 ((((p0.length : Int)) - (0)).toNat + 2) 0 0).bind fun (o : Int) => match o with | x62 => ((slices_Grow_int_int_nil.f x62).bind fun u121 => (slices_Concat_int_int.l2 p0 ((((p0.length : Int)) - (0)).toNat + 2) u121 0).bind fun (o : (List (Int))) => match o with | x155 => (some x155))
def slices_Concat_int_int.post (sb s : St) (F0 : Fp) (r : (List (Int))) : Value → St → Prop := fun v s' => ∃ (A0 : Option Addr) (c0 : Nat), v = .slice A0 r.length c0 ∧ Hp sb s F0 s' [Ck.ol OI 3 A0 c0 r]
set_option maxRecDepth 100000 in
set_option maxHeartbeats 4000000 in
theorem slices_Concat_int_int.ok (sb s : St) (F0 : Fp) (A0p : Option Addr) (c0p : Nat) (p0 : List (List (Int))) (HRp0 : Rd (Kd.sl KI) sb A0p c0p p0) (hH : Hp sb s F0 s []) (r : (List (Int))) (H : slices_Concat_int_int.f p0 = some r) : GCall Try.prog 185 #[.slice A0p p0.length c0p] s (slices_Concat_int_int.post sb s F0 r) := by
  refine GCall_ofk [.tmp 2] [.slice A0p p0.length c0p, undef, undef, undef, undef, undef, undef, undef, undef, undef, undef, undef, undef, undef, undef, undef, undef, undef, undef, undef, undef, undef, undef, undef, undef, undef, undef, undef, undef, undef, undef, undef, undef, undef, undef, undef] Try.func185 rfl rfl rfl ?_
  intro w Q hQr hQn hQp
  replace H := topE H
  unfold slices_Concat_int_int.f at H
  refine HT_seq_k ?_
  intro K1 hK1
  refine HT_region ?_
  refine HL_cons rfl ?_
  refine o_assign ?_
  try dsimp only [putL, setL, evL, getL]
  refine HL_nil ?_
  refine hK1 _ _ ?_
  refine HT_seq_k ?_
  intro K2 hK2
  refine HT_region ?_
  refine HL_cons rfl ?_
  refine o_assign ?_
  try dsimp only [putL, setL, evL, getL]
  refine HL_nil ?_
  refine hK2 _ _ ?_
  refine HT_seq_k ?_
  intro K3 hK3
  refine HT_seq_k ?_
  intro K4 hK4
  refine HT_region ?_
  refine HL_cons rfl ?_
  refine o_move ?_
  try dsimp only [putL, setL, evL, getL]
  refine HL_cons rfl ?_
  refine o_len rfl Try.underlying105 ?_
  try dsimp only [putL, setL, evL, getL]
  refine HL_cons rfl ?_
  refine o_move ?_
  try dsimp only [putL, setL, evL, getL]
  refine HL_nil ?_
  refine hK4 _ _ ?_
  refine joinH H fun G5 hG5 H => ?_
  refine HT_toK (fun l' s' => ∃ (x62 : Int), G5 x62 = some r ∧ l' = [.slice A0p p0.length c0p, undef, .slice none 0 0, .int .i64 x62, undef, getL l' 5, undef, undef, undef, .slice A0p p0.length c0p, .int .i64 (p0.length : Int), getL l' 11, getL l' 12, getL l' 13, getL l' 14, getL l' 15, getL l' 16, getL l' 17, getL l' 18, getL l' 19, getL l' 20, getL l' 21, getL l' 22, undef, undef, undef, undef, undef, undef, undef, undef, undef, undef, undef, undef, undef] ∧ Hp sb s F0 s' []) ?_ ?_
  · intro K5 hK5
    refine HT_block ?_
    refine HT_loopK (fun kf l' s' => ∃ (x80 : Int) (x81 : Int), (slices_Concat_int_int.l1 p0 kf x80 x81).bind G5 = some r ∧ l' = [.slice A0p p0.length c0p, undef, .slice none 0 0, .int .i64 x80, undef, getL l' 5, undef, undef, undef, .slice A0p p0.length c0p, .int .i64 (p0.length : Int), .int .i64 x81, getL l' 12, getL l' 13, getL l' 14, getL l' 15, getL l' 16, getL l' 17, getL l' 18, getL l' 19, getL l' 20, getL l' 21, getL l' 22, undef, undef, undef, undef, undef, undef, undef, undef, undef, undef, undef, undef, undef] ∧ Hp sb s F0 s' []) ((((p0.length : Int)) - (0)).toNat + 2) ⟨0, 0, H, rfl, hH⟩ ?_
    rintro kf l' s101 ⟨x80, x81, H, hl, hH⟩ K101 hK101
    generalize getL l' 5 = j5, getL l' 12 = j12, getL l' 13 = j13, getL l' 14 = j14, getL l' 15 = j15, getL l' 16 = j16, getL l' 17 = j17, getL l' 18 = j18, getL l' 19 = j19, getL l' 20 = j20, getL l' 21 = j21, getL l' 22 = j22 at hl
    subst hl
    cases kf with
    | zero => simp [slices_Concat_int_int.l1] at H
    | succ kf =>
      rw [slices_Concat_int_int.l1] at H
      refine HT_seq_k ?_
      intro K102 hK102
      refine HT_region ?_
      refine HL_cons rfl ?_
      refine o_bin rfl rfl rfl ?_
      try dsimp only [putL, setL, evL, getL]
      refine HL_nil ?_
      refine hK102 _ _ ?_
      refine HT_seq_k ?_
      intro K103 hK103
      rcases Bool.eq_false_or_eq_true (decide (x81 < (p0.length : Int))) with hb104 | hb104
      · replace H := iteT hb104 H
        refine HT_true (congrArg Value.bool hb104) ?_
        refine HT_skip ?_
        refine hK103 _ _ ?_
        refine HT_seq_k ?_
        intro K112 hK112
        refine HT_block ?_
        refine HT_seq_k ?_
        intro K113 hK113
        refine HT_region ?_
        replace H := headE H
        obtain ⟨u114, hu114, H⟩ := H
        obtain ⟨b114, o114, cs114, hr114, hh114, hel114⟩ := Rd.elb HRp0 hu114
        obtain ⟨A115, c115, rfl, D115⟩ := hr114
        refine HL_cons rfl ?_
        refine hel114 s101 rfl rfl Try.underlying105 tI24 ?_
        try dsimp only [putL, setL, evL, getL]
        refine HL_cons rfl ?_
        refine o_load' rfl Try.underlying24 rfl ((hh114 hH.bs.mono) 0 _ rfl) ?_
        try dsimp only [putL, setL, evL, getL]
        refine HL_cons rfl ?_
        refine o_assign ?_
        try dsimp only [putL, setL, evL, getL]
        refine HL_nil ?_
        refine hK113 _ _ ?_
        refine HT_seq_k ?_
        intro K116 hK116
        refine HT_region ?_
        refine HL_cons rfl ?_
        refine o_move ?_
        try dsimp only [putL, setL, evL, getL]
        refine HL_cons rfl ?_
        refine o_move ?_
        try dsimp only [putL, setL, evL, getL]
        refine HL_cons rfl ?_
        refine o_len rfl Try.underlying24 ?_
        try dsimp only [putL, setL, evL, getL]
        refine HL_cons rfl ?_
        refine o_bin rfl rfl rfl ?_
        try dsimp only [putL, setL, evL, getL]
        refine HL_cons rfl ?_
        refine o_assign ?_
        try dsimp only [putL, setL, evL, getL]
        refine HL_nil ?_
        refine hK116 _ _ ?_
        refine HT_seq_k ?_
        intro K117 hK117
        refine HT_region ?_
        refine HL_cons rfl ?_
        refine o_move ?_
        try dsimp only [putL, setL, evL, getL]
        refine HL_cons rfl ?_
        refine o_bin rfl rfl rfl ?_
        try dsimp only [putL, setL, evL, getL]
        refine HL_nil ?_
        refine hK117 _ _ ?_
        rcases Bool.eq_false_or_eq_true (decide ((IntKind.i64.wrap (x80 + (u114.length : Int))) < 0)) with hb118 | hb118
        · replace H := iteT hb118 H
          refine HT_true (congrArg Value.bool hb118) ?_
          cases H
        · replace H := iteF hb118 H
          refine HT_false (congrArg Value.bool hb118) ?_
          refine HT_skip ?_
          refine hK112 _ _ ?_
          refine HT_region ?_
          refine HL_cons rfl ?_
          refine o_bin rfl rfl rfl ?_
          try dsimp only [putL, setL, evL, getL]
          refine HL_cons rfl ?_
          refine o_move ?_
          try dsimp only [putL, setL, evL, getL]
          refine HL_nil ?_
          exact hK101 _ _ ⟨kf, Nat.lt_succ_self kf, IntKind.i64.wrap (x80 + (u114.length : Int)), IntKind.i64.wrap (x81 + 1), H, rfl, hH⟩
      · replace H := iteF hb104 H
        refine HT_false (congrArg Value.bool hb104) ?_
        refine HT_exit ?_
        exact hK5 _ _ ⟨x80, H, rfl, hH⟩
  · rintro l' s119 ⟨x62, H, hl, hH⟩
    generalize getL l' 5 = j5, getL l' 11 = j11, getL l' 12 = j12, getL l' 13 = j13, getL l' 14 = j14, getL l' 15 = j15, getL l' 16 = j16, getL l' 17 = j17, getL l' 18 = j18, getL l' 19 = j19, getL l' 20 = j20, getL l' 21 = j21, getL l' 22 = j22 at hl
    subst hl
    replace H := hG5 _ H
    try dsimp only at H
    refine hK3 _ _ ?_
    refine HT_seq_k ?_
    intro K120 hK120
    refine HT_region ?_
    refine HL_cons rfl ?_
    refine o_move ?_
    try dsimp only [putL, setL, evL, getL]
    replace H := headE H
    obtain ⟨u121, hu121, H⟩ := H
    refine HL_cons rfl ?_
    refine o_call (args := #[.slice none 0 0, .int .i64 x62]) Try.func219 rfl rfl rfl (slices_Grow_int_int_nil.ok sb s119 no x62 (Hp.own hH.bs) _ hu121) ?_
    rintro _ s121 ⟨A122, c122, rfl, hD⟩
    replace hH := hH.back0 hD (Up.refl _ _ _)
    clear hD
    dsimp only [addC, setC, rmC, selC, getC] at hH
    try dsimp only [putL, setL, evL, getL]
    refine HL_cons rfl ?_
    refine o_assign ?_
    try dsimp only [putL, setL, evL, getL]
    refine HL_nil ?_
    refine hK120 _ _ ?_
    refine HT_seq_k ?_
    intro K123 hK123
    refine HT_seq_k ?_
    intro K124 hK124
    refine HT_region ?_
    refine HL_cons rfl ?_
    refine o_move ?_
    try dsimp only [putL, setL, evL, getL]
    refine HL_cons rfl ?_
    refine o_len rfl Try.underlying105 ?_
    try dsimp only [putL, setL, evL, getL]
    refine HL_cons rfl ?_
    refine o_move ?_
    try dsimp only [putL, setL, evL, getL]
    refine HL_nil ?_
    refine hK124 _ _ ?_
    refine joinH H fun G125 hG125 H => ?_
    refine HT_toK (fun l' s' => ∃ (x155 : List (Int)) (A155 : Option Addr) (c155 : Nat), G125 x155 = some r ∧ l' = [.slice A0p p0.length c0p, undef, .slice none 0 0, .int .i64 x62, undef, j5, .slice A155 x155.length c155, undef, getL l' 8, .slice A0p p0.length c0p, .int .i64 (p0.length : Int), j11, j12, j13, j14, j15, j16, j17, j18, j19, j20, j21, j22, .int .i64 x62, .slice A122 u121.length c122, .slice A0p p0.length c0p, .int .i64 (p0.length : Int), getL l' 27, getL l' 28, getL l' 29, getL l' 30, getL l' 31, getL l' 32, getL l' 33, getL l' 34, undef] ∧ Hp sb s F0 s' [Ck.ol OI 3 A155 c155 x155]) ?_ ?_
    · intro K125 hK125
      refine HT_block ?_
      refine HT_loopK (fun kf l' s' => ∃ (x164 : List (Int)) (A164 : Option Addr) (c164 : Nat) (x165 : Int), (slices_Concat_int_int.l2 p0 kf x164 x165).bind G125 = some r ∧ l' = [.slice A0p p0.length c0p, undef, .slice none 0 0, .int .i64 x62, undef, j5, .slice A164 x164.length c164, undef, getL l' 8, .slice A0p p0.length c0p, .int .i64 (p0.length : Int), j11, j12, j13, j14, j15, j16, j17, j18, j19, j20, j21, j22, .int .i64 x62, .slice A122 u121.length c122, .slice A0p p0.length c0p, .int .i64 (p0.length : Int), .int .i64 x165, getL l' 28, getL l' 29, getL l' 30, getL l' 31, getL l' 32, getL l' 33, getL l' 34, undef] ∧ Hp sb s F0 s' [Ck.ol OI 3 A164 c164 x164]) ((((p0.length : Int)) - (0)).toNat + 2) ⟨u121, A122, c122, 0, H, rfl, hH⟩ ?_
      rintro kf l' s176 ⟨x164, A164, c164, x165, H, hl, hH⟩ K176 hK176
      generalize getL l' 8 = j8, getL l' 28 = j28, getL l' 29 = j29, getL l' 30 = j30, getL l' 31 = j31, getL l' 32 = j32, getL l' 33 = j33, getL l' 34 = j34 at hl
      subst hl
      cases kf with
      | zero => simp [slices_Concat_int_int.l2] at H
      | succ kf =>
        rw [slices_Concat_int_int.l2] at H
        refine HT_seq_k ?_
        intro K177 hK177
        refine HT_region ?_
        refine HL_cons rfl ?_
        refine o_bin rfl rfl rfl ?_
        try dsimp only [putL, setL, evL, getL]
        refine HL_nil ?_
        refine hK177 _ _ ?_
        refine HT_seq_k ?_
        intro K178 hK178
        rcases Bool.eq_false_or_eq_true (decide (x165 < (p0.length : Int))) with hb179 | hb179
        · replace H := iteT hb179 H
          refine HT_true (congrArg Value.bool hb179) ?_
          refine HT_skip ?_
          refine hK178 _ _ ?_
          refine HT_seq_k ?_
          intro K180 hK180
          refine HT_block ?_
          refine HT_seq_k ?_
          intro K181 hK181
          refine HT_region ?_
          replace H := headE H
          obtain ⟨u182, hu182, H⟩ := H
          obtain ⟨b182, o182, cs182, hr182, hh182, hel182⟩ := Rd.elb HRp0 hu182
          obtain ⟨A183, c183, rfl, D183⟩ := hr182
          refine HL_cons rfl ?_
          refine hel182 s176 rfl rfl Try.underlying105 tI24 ?_
          try dsimp only [putL, setL, evL, getL]
          refine HL_cons rfl ?_
          refine o_load' rfl Try.underlying24 rfl ((hh182 hH.bs.mono) 0 _ rfl) ?_
          try dsimp only [putL, setL, evL, getL]
          refine HL_cons rfl ?_
          refine o_assign ?_
          try dsimp only [putL, setL, evL, getL]
          refine HL_nil ?_
          refine hK181 _ _ ?_
          refine HT_region ?_
          refine HL_cons rfl ?_
          refine o_move ?_
          try dsimp only [putL, setL, evL, getL]
          refine HL_cons rfl ?_
          refine o_move ?_
          try dsimp only [putL, setL, evL, getL]
          replace H := headE H
          obtain ⟨x184, hx184, H⟩ := H
          refine HL_cons rfl ?_
          refine o_appF (K := KI) (n := 17592186044416) (A := A164) (c := c164) (xs := x164) (ys := u182) (B := A183) (c2 := c183) hH 0 rfl rfl rfl rfl Try.underlying24 tI3 rfl (by decide) (by decide) (by decide) (Src.flat (D183.mono hH.bs.mono)) hx184 ?_
          intro A184 c184 s184 hH'
          replace hH : Hp sb s F0 s184 [Ck.ol OI 3 A184 c184 x184] := hH'
          clear hH'
          try dsimp only [putL, setL, evL, getL]
          refine HL_cons rfl ?_
          refine o_assign ?_
          try dsimp only [putL, setL, evL, getL]
          refine HL_nil ?_
          refine hK180 _ _ ?_
          refine HT_region ?_
          refine HL_cons rfl ?_
          refine o_bin rfl rfl rfl ?_
          try dsimp only [putL, setL, evL, getL]
          refine HL_cons rfl ?_
          refine o_move ?_
          try dsimp only [putL, setL, evL, getL]
          refine HL_nil ?_
          exact hK176 _ _ ⟨kf, Nat.lt_succ_self kf, x184, A184, c184, IntKind.i64.wrap (x165 + 1), H, rfl, hH⟩
        · replace H := iteF hb179 H
          refine HT_false (congrArg Value.bool hb179) ?_
          refine HT_exit ?_
          exact hK125 _ _ ⟨x164, A164, c164, H, rfl, hH⟩
    · rintro l' s185 ⟨x155, A155, c155, H, hl, hH⟩
      generalize getL l' 8 = j8, getL l' 27 = j27, getL l' 28 = j28, getL l' 29 = j29, getL l' 30 = j30, getL l' 31 = j31, getL l' 32 = j32, getL l' 33 = j33, getL l' 34 = j34 at hl
      subst hl
      replace H := hG125 _ H
      try dsimp only at H
      refine hK123 _ _ ?_
      refine HT_seq_k ?_
      intro K186 hK186
      refine HT_region ?_
      refine HL_cons rfl ?_
      refine o_move ?_
      try dsimp only [putL, setL, evL, getL]
      refine HL_cons rfl ?_
      refine o_assign ?_
      try dsimp only [putL, setL, evL, getL]
      refine HL_nil ?_
      refine hK186 _ _ ?_
      refine HT_ret ?_
      exact hQr _ _ [.slice A155 x155.length c155] ⟨rfl, trivial⟩ (retH (fun r => slices_Concat_int_int.post sb s F0 r _ _) (show some _ = some r from H) ⟨A155, c155, rfl, hH⟩)
def impl_Buf_bytes.l1 (x6 : List (Int)) : Nat → Int → Int → Option Int
  | 0, _, _ => none
  | kf + 1, x38, x39 => if (decide (x39 < (x6.length : Int))) = true then ((rd? x6 x39).bind fun u54 => impl_Buf_bytes.l1 x6 kf (IntKind.i64.wrap (x38 + u54)) (IntKind.i64.wrap (x39 + 1))) else (some x38)
def impl_Buf_bytes.f (p0_0 : Int) (p0_1 : List (Int)) (p0_2 : List (Int)) (p0_3 : Int) (p1 : Int) : Option Int := (cut? p0_2 0 p1).bind fun x6 => (impl_Buf_bytes.l1 x6 ((((x6.length : Int)) - (0)).toNat + 2) p0_3 0).bind fun (o : Int) => match o with | x31 => (some x31)
def impl_Buf_bytes.post (sb s : St) (F0 : Fp) (r : Int) : Value → St → Prop := fun v s' => v = .int .i64 r ∧ Hp sb s F0 s' []
set_option maxRecDepth 100000 in
set_option maxHeartbeats 4000000 in
theorem impl_Buf_bytes.ok (sb s : St) (F0 : Fp) (p0_0 : Int) (A0_1p : Option Addr) (c0_1p : Nat) (p0_1 : List (Int)) (A0_2p : Option Addr) (c0_2p : Nat) (p0_2 : List (Int)) (p0_3 : Int) (p1 : Int) (HRp0_1 : Rd KI sb A0_1p c0_1p p0_1) (HRp0_2 : Rd KI sb A0_2p c0_2p p0_2) (hH : Hp sb s F0 s []) (r : Int) (H : impl_Buf_bytes.f p0_0 p0_1 p0_2 p0_3 p1 = some r) : GCall Try.prog 125 #[.agg #[.int .i64 p0_0, .slice A0_1p p0_1.length c0_1p, .slice A0_2p p0_2.length c0_2p, .int .i64 p0_3], .int .i64 p1] s (impl_Buf_bytes.post sb s F0 r) := by
  refine GCall_ofk [.tmp 4] [.agg #[.int .i64 p0_0, .slice A0_1p p0_1.length c0_1p, .slice A0_2p p0_2.length c0_2p, .int .i64 p0_3], .int .i64 p1, undef, undef, undef, undef, undef, undef, undef, undef, undef, undef, undef, undef, undef, undef, undef, undef, undef, undef, undef, undef, undef, undef] Try.func125 rfl rfl rfl ?_
  intro w Q hQr hQn hQp
  replace H := topE H
  unfold impl_Buf_bytes.f at H
  refine HT_seq_k ?_
  intro K1 hK1
  refine HT_region ?_
  refine HL_cons rfl ?_
  refine o_boxH hH rfl ?_
  intro b2 s2 hH' hG
  replace hH : Hp sb s F0 s2 [Ck.ov b2 [.int .i64 p0_0, .slice A0_1p p0_1.length c0_1p, .slice A0_2p p0_2.length c0_2p, .int .i64 p0_3] 37] := hH'
  clear hH' hG
  try dsimp only [putL, setL, evL, getL]
  refine HL_cons rfl ?_
  refine o_assign ?_
  try dsimp only [putL, setL, evL, getL]
  refine HL_nil ?_
  refine hK1 _ _ ?_
  refine HT_seq_k ?_
  intro K3 hK3
  refine HT_region ?_
  refine HL_cons rfl ?_
  refine o_faddr' (ft := 3) (off := 3) rfl Try.underlying37 rfl tI3 (by decide) ?_
  try dsimp only [putL, setL, evL, getL]
  refine HL_cons rfl ?_
  refine o_load' rfl Try.underlying3 rfl (hH.hasv 0 rfl rfl) ?_
  try dsimp only [putL, setL, evL, getL]
  refine HL_cons rfl ?_
  refine o_assign ?_
  try dsimp only [putL, setL, evL, getL]
  refine HL_nil ?_
  refine hK3 _ _ ?_
  refine HT_seq_k ?_
  intro K4 hK4
  refine HT_seq_k ?_
  intro K5 hK5
  refine HT_region ?_
  refine HL_cons rfl ?_
  refine o_faddr' (ft := 24) (off := 2) rfl Try.underlying37 rfl tI24 (by decide) ?_
  try dsimp only [putL, setL, evL, getL]
  refine HL_cons rfl ?_
  refine o_load' rfl Try.underlying24 rfl (hH.hasv 0 rfl rfl) ?_
  try dsimp only [putL, setL, evL, getL]
  refine HL_cons rfl ?_
  refine o_move ?_
  try dsimp only [putL, setL, evL, getL]
  replace H := headE H
  obtain ⟨x6, hx6, H⟩ := H
  refine HL_cons rfl ?_
  refine o_cutA (xs := p0_2) (kl := .i64) (kh := .i64) (L := 0) (H := p1) rfl rfl rfl Try.underlying24 tI3 HRp0_2.1 hx6 ?_
  have D6 := HRp0_2.cut hx6
  try dsimp only [putL, setL, evL, getL]
  refine HL_cons rfl ?_
  refine o_len rfl Try.underlying24 ?_
  try dsimp only [putL, setL, evL, getL]
  refine HL_cons rfl ?_
  refine o_move ?_
  try dsimp only [putL, setL, evL, getL]
  refine HL_nil ?_
  refine hK5 _ _ ?_
  refine joinH H fun G7 hG7 H => ?_
  refine HT_toK (fun l' s' => ∃ (x31 : Int), G7 x31 = some r ∧ l' = [.agg #[.int .i64 p0_0, .slice A0_1p p0_1.length c0_1p, .slice A0_2p p0_2.length c0_2p, .int .i64 p0_3], .int .i64 p1, .pointer (some ⟨b2, 0, none⟩), undef, .int .i64 0, .int .i64 x31, undef, getL l' 7, .pointer (some ⟨b2, 0 + 3, none⟩), .int .i64 p0_3, .pointer (some ⟨b2, 0 + 2, none⟩), .slice A0_2p p0_2.length c0_2p, .int .i64 p1, .slice (cutA A0_2p c0_2p (Int.toNat 0) (Kd.sz KI)) x6.length (c0_2p - Int.toNat 0), .int .i64 (x6.length : Int), getL l' 15, getL l' 16, getL l' 17, getL l' 18, getL l' 19, getL l' 20, getL l' 21, getL l' 22, undef] ∧ Hp sb s F0 s' []) ?_ ?_
  · intro K7 hK7
    refine HT_block ?_
    refine HT_loopK (fun kf l' s' => ∃ (x38 : Int) (x39 : Int), (impl_Buf_bytes.l1 x6 kf x38 x39).bind G7 = some r ∧ l' = [.agg #[.int .i64 p0_0, .slice A0_1p p0_1.length c0_1p, .slice A0_2p p0_2.length c0_2p, .int .i64 p0_3], .int .i64 p1, .pointer (some ⟨b2, 0, none⟩), undef, .int .i64 0, .int .i64 x38, undef, getL l' 7, .pointer (some ⟨b2, 0 + 3, none⟩), .int .i64 p0_3, .pointer (some ⟨b2, 0 + 2, none⟩), .slice A0_2p p0_2.length c0_2p, .int .i64 p1, .slice (cutA A0_2p c0_2p (Int.toNat 0) (Kd.sz KI)) x6.length (c0_2p - Int.toNat 0), .int .i64 (x6.length : Int), .int .i64 x39, getL l' 16, getL l' 17, getL l' 18, getL l' 19, getL l' 20, getL l' 21, getL l' 22, undef] ∧ Hp sb s F0 s' []) ((((x6.length : Int)) - (0)).toNat + 2) ⟨p0_3, 0, H, rfl, hH.sel [] (by decide)⟩ ?_
    rintro kf l' s48 ⟨x38, x39, H, hl, hH⟩ K48 hK48
    generalize getL l' 7 = j7, getL l' 16 = j16, getL l' 17 = j17, getL l' 18 = j18, getL l' 19 = j19, getL l' 20 = j20, getL l' 21 = j21, getL l' 22 = j22 at hl
    subst hl
    cases kf with
    | zero => simp [impl_Buf_bytes.l1] at H
    | succ kf =>
      rw [impl_Buf_bytes.l1] at H
      refine HT_seq_k ?_
      intro K49 hK49
      refine HT_region ?_
      refine HL_cons rfl ?_
      refine o_bin rfl rfl rfl ?_
      try dsimp only [putL, setL, evL, getL]
      refine HL_nil ?_
      refine hK49 _ _ ?_
      refine HT_seq_k ?_
      intro K50 hK50
      rcases Bool.eq_false_or_eq_true (decide (x39 < (x6.length : Int))) with hb51 | hb51
      · replace H := iteT hb51 H
        refine HT_true (congrArg Value.bool hb51) ?_
        refine HT_skip ?_
        refine hK50 _ _ ?_
        refine HT_seq_k ?_
        intro K52 hK52
        refine HT_block ?_
        refine HT_seq_k ?_
        intro K53 hK53
        refine HT_region ?_
        replace H := headE H
        obtain ⟨u54, hu54, H⟩ := H
        obtain ⟨b54, o54, cs54, hr54, hh54, hel54⟩ := Rd.elb D6 hu54
        obtain rfl := hr54
        refine HL_cons rfl ?_
        refine hel54 s48 rfl rfl Try.underlying24 tI3 ?_
        try dsimp only [putL, setL, evL, getL]
        refine HL_cons rfl ?_
        refine o_load' rfl Try.underlying3 rfl ((hh54 hH.bs.mono) 0 _ rfl) ?_
        try dsimp only [putL, setL, evL, getL]
        refine HL_cons rfl ?_
        refine o_assign ?_
        try dsimp only [putL, setL, evL, getL]
        refine HL_nil ?_
        refine hK53 _ _ ?_
        refine HT_region ?_
        refine HL_cons rfl ?_
        refine o_move ?_
        try dsimp only [putL, setL, evL, getL]
        refine HL_cons rfl ?_
        refine o_move ?_
        try dsimp only [putL, setL, evL, getL]
        refine HL_cons rfl ?_
        refine o_bin rfl rfl rfl ?_
        try dsimp only [putL, setL, evL, getL]
        refine HL_cons rfl ?_
        refine o_assign ?_
        try dsimp only [putL, setL, evL, getL]
        refine HL_nil ?_
        refine hK52 _ _ ?_
        refine HT_region ?_
        refine HL_cons rfl ?_
        refine o_bin rfl rfl rfl ?_
        try dsimp only [putL, setL, evL, getL]
        refine HL_cons rfl ?_
        refine o_move ?_
        try dsimp only [putL, setL, evL, getL]
        refine HL_nil ?_
        exact hK48 _ _ ⟨kf, Nat.lt_succ_self kf, IntKind.i64.wrap (x38 + u54), IntKind.i64.wrap (x39 + 1), H, rfl, hH⟩
      · replace H := iteF hb51 H
        refine HT_false (congrArg Value.bool hb51) ?_
        refine HT_exit ?_
        exact hK7 _ _ ⟨x38, H, rfl, hH⟩
  · rintro l' s55 ⟨x31, H, hl, hH⟩
    generalize getL l' 7 = j7, getL l' 15 = j15, getL l' 16 = j16, getL l' 17 = j17, getL l' 18 = j18, getL l' 19 = j19, getL l' 20 = j20, getL l' 21 = j21, getL l' 22 = j22 at hl
    subst hl
    replace H := hG7 _ H
    try dsimp only at H
    refine hK4 _ _ ?_
    refine HT_seq_k ?_
    intro K56 hK56
    refine HT_region ?_
    refine HL_cons rfl ?_
    refine o_move ?_
    try dsimp only [putL, setL, evL, getL]
    refine HL_cons rfl ?_
    refine o_assign ?_
    try dsimp only [putL, setL, evL, getL]
    refine HL_nil ?_
    refine hK56 _ _ ?_
    refine HT_ret ?_
    exact hQr _ _ [.int .i64 x31] ⟨rfl, trivial⟩ (retH (fun r => impl_Buf_bytes.post sb s F0 r _ _) (show some _ = some r from H) ⟨rfl, hH⟩)
def impl_Buf_take.f (p0_0 : Int) (p0_1 : List (Int)) (p0_2 : List (Int)) (p0_3 : Int) (p1 : Int) : Option ((List (Int)) × (List (Int)) × (List (Int)) × Int) := (cut? p0_1 0 p1).bind fun x3 => (slices_Clone_int_int.f x3).bind fun u4 => (impl_Buf_bytes.f p0_0 p0_1 p0_2 p0_3 p1).bind fun u7 => (cut? p0_1 p1 (p0_1.length : Int)).bind fun x10 => (cut? p0_2 p1 (p0_2.length : Int)).bind fun x11 => (slices_Clone_int_int.f x10).bind fun u12 => (slices_Clone_int_int.f x11).bind fun u14 => some (u4, u12, u14, u7)
def impl_Buf_take.post (sb s : St) (F0 : Fp) (bp0 : Nat) (p0_0 : Int) (r : (List (Int)) × (List (Int)) × (List (Int)) × Int) : Value → St → Prop := fun v s' => ∃ (A0 : Option Addr) (c0 : Nat) (A1 : Option Addr) (c1 : Nat) (A2 : Option Addr) (c2 : Nat), v = .slice A0 r.1.length c0 ∧ Hp sb s F0 s' [Ck.ol OI 3 A0 c0 r.1, Ck.ol OI 3 A1 c1 r.2.1, Ck.ol OI 3 A2 c2 r.2.2.1, Ck.ov bp0 [.int .i64 p0_0, .slice A1 r.2.1.length c1, .slice A2 r.2.2.1.length c2, .int .i64 r.2.2.2] 37]
set_option maxRecDepth 100000 in
set_option maxHeartbeats 4000000 in
theorem impl_Buf_take.ok (sb s : St) (F0 : Fp) (bp0 : Nat) (p0_0 : Int) (A0_1p : Option Addr) (c0_1p : Nat) (p0_1 : List (Int)) (A0_2p : Option Addr) (c0_2p : Nat) (p0_2 : List (Int)) (p0_3 : Int) (p1 : Int) (HRp0_1 : Rd KI sb A0_1p c0_1p p0_1) (HRp0_2 : Rd KI sb A0_2p c0_2p p0_2) (hH : Hp sb s F0 s [Ck.ov bp0 [.int .i64 p0_0, .slice A0_1p p0_1.length c0_1p, .slice A0_2p p0_2.length c0_2p, .int .i64 p0_3] 37]) (r : (List (Int)) × (List (Int)) × (List (Int)) × Int) (H : impl_Buf_take.f p0_0 p0_1 p0_2 p0_3 p1 = some r) : GCall Try.prog 123 #[.pointer (some ⟨bp0, 0, none⟩), .int .i64 p1] s (impl_Buf_take.post sb s F0 bp0 p0_0 r) := by
  refine GCall_ofk [.tmp 4] [.pointer (some ⟨bp0, 0, none⟩), .int .i64 p1, undef, undef, undef, undef, undef, undef, undef, undef, undef, undef, undef, undef, undef, undef, undef, undef, undef, undef, undef, undef, undef, undef, undef, undef, undef, undef, undef, undef, undef, undef, undef, undef, undef, undef, undef, undef, undef, undef, undef, undef] Try.func123 rfl rfl rfl ?_
  intro w Q hQr hQn hQp
  replace H := topE H
  unfold impl_Buf_take.f at H
  refine HT_seq_k ?_
  intro K1 hK1
  refine HT_region ?_
  refine HL_cons rfl ?_
  refine o_assign ?_
  try dsimp only [putL, setL, evL, getL]
  refine HL_nil ?_
  refine hK1 _ _ ?_
  refine HT_seq_k ?_
  intro K2 hK2
  refine HT_region ?_
  refine HL_cons rfl ?_
  refine o_move ?_
  try dsimp only [putL, setL, evL, getL]
  refine HL_cons rfl ?_
  refine o_nilck rfl ?_
  try dsimp only [putL, setL, evL, getL]
  refine HL_cons rfl ?_
  refine o_faddr' (ft := 24) (off := 1) rfl Try.underlying37 rfl tI24 (by decide) ?_
  try dsimp only [putL, setL, evL, getL]
  refine HL_cons rfl ?_
  refine o_load' rfl Try.underlying24 rfl (hH.hasv 0 rfl rfl) ?_
  try dsimp only [putL, setL, evL, getL]
  refine HL_cons rfl ?_
  refine o_move ?_
  try dsimp only [putL, setL, evL, getL]
  replace H := headE H
  obtain ⟨x3, hx3, H⟩ := H
  refine HL_cons rfl ?_
  refine o_cutA (xs := p0_1) (kl := .i64) (kh := .i64) (L := 0) (H := p1) rfl rfl rfl Try.underlying24 tI3 HRp0_1.1 hx3 ?_
  have D3 := HRp0_1.cut hx3
  try dsimp only [putL, setL, evL, getL]
  replace H := headE H
  obtain ⟨u4, hu4, H⟩ := H
  refine HL_cons rfl ?_
  refine o_call (args := #[.slice (cutA A0_1p c0_1p (Int.toNat 0) (Kd.sz KI)) x3.length (c0_1p - Int.toNat 0)]) Try.func141 rfl rfl rfl (slices_Clone_int_int.ok sb s no (cutA A0_1p c0_1p (Int.toNat 0) (Kd.sz KI)) (c0_1p - Int.toNat 0) x3 D3 (Hp.own hH.bs) _ hu4) ?_
  rintro _ s4 ⟨A5, c5, rfl, hD⟩
  replace hH := hH.back0 hD (Up.refl _ _ _)
  clear hD
  dsimp only [addC, setC, rmC, selC, getC] at hH
  try dsimp only [putL, setL, evL, getL]
  refine HL_cons rfl ?_
  refine o_assign ?_
  try dsimp only [putL, setL, evL, getL]
  refine HL_nil ?_
  refine hK2 _ _ ?_
  refine HT_seq_k ?_
  intro K6 hK6
  refine HT_region ?_
  refine HL_cons rfl ?_
  refine o_move ?_
  try dsimp only [putL, setL, evL, getL]
  refine HL_cons rfl ?_
  refine o_move ?_
  try dsimp only [putL, setL, evL, getL]
  refine HL_cons rfl ?_
  refine o_nilck rfl ?_
  try dsimp only [putL, setL, evL, getL]
  refine HL_cons rfl ?_
  refine o_loads' [.int .i64 p0_0, .slice A0_1p p0_1.length c0_1p, .slice A0_2p p0_2.length c0_2p, .int .i64 p0_3] rfl Try.underlying37 rfl tI37 rfl (hH.partv 0 rfl (0) [.int .i64 p0_0, .slice A0_1p p0_1.length c0_1p, .slice A0_2p p0_2.length c0_2p, .int .i64 p0_3] rfl) ?_
  try dsimp only [putL, setL, evL, getL]
  refine HL_cons rfl ?_
  refine o_move ?_
  try dsimp only [putL, setL, evL, getL]
  replace H := headE H
  obtain ⟨u7, hu7, H⟩ := H
  refine HL_cons rfl ?_
  refine o_call (args := #[.agg #[.int .i64 p0_0, .slice A0_1p p0_1.length c0_1p, .slice A0_2p p0_2.length c0_2p, .int .i64 p0_3], .int .i64 p1]) Try.func125 rfl rfl rfl (impl_Buf_bytes.ok sb s4 no p0_0 A0_1p c0_1p p0_1 A0_2p c0_2p p0_2 p0_3 p1 HRp0_1 HRp0_2 (Hp.own hH.bs) _ hu7) ?_
  rintro _ s7 ⟨rfl, hD⟩
  replace hH := hH.back0 hD (Up.refl _ _ _)
  clear hD
  dsimp only [addC, setC, rmC, selC, getC] at hH
  try dsimp only [putL, setL, evL, getL]
  refine HL_cons rfl ?_
  refine o_nilck rfl ?_
  try dsimp only [putL, setL, evL, getL]
  refine HL_cons rfl ?_
  refine o_faddr' (ft := 3) (off := 3) rfl Try.underlying37 rfl tI3 (by decide) ?_
  try dsimp only [putL, setL, evL, getL]
  refine HL_cons rfl ?_
  refine o_stvH (vs := [.int .i64 u7]) (us' := [.int .i64 p0_0, .slice A0_1p p0_1.length c0_1p, .slice A0_2p p0_2.length c0_2p, .int .i64 u7]) hH 0 rfl rfl rfl rfl rfl tI3 rfl (List.cons_ne_nil _ _) rfl rfl rfl ?_
  intro s8 hH'
  replace hH : Hp sb s F0 s8 [Ck.ov bp0 [.int .i64 p0_0, .slice A0_1p p0_1.length c0_1p, .slice A0_2p p0_2.length c0_2p, .int .i64 u7] 37, Ck.ol OI 3 A5 c5 u4] := hH'
  clear hH'
  try dsimp only [putL, setL, evL, getL]
  refine HL_nil ?_
  refine hK6 _ _ ?_
  refine HT_seq_k ?_
  intro K9 hK9
  refine HX_draw hMix ?_
  refine HX_lim (R := fun _ => True) (k := 0) (fun s' => Gro s8 s') 18 ?_
  have hR := Gro.refl s8
  have hH0 := hH
  refine HK_readP 2 (v := .pointer (some ⟨bp0, 0, none⟩)) rfl (by kernel_rfl) (fun c l s h => hQp c l s h) rfl (fun s' K hK => ?_) rfl rfl (fun _ => hR) ?_
  · refine o_move ?_
    exact hK
  try dsimp only [putL, setL, evL, getL]
  refine HK_readP 3 (v := .pointer (some ⟨bp0, 0, none⟩)) rfl (by kernel_rfl) (fun c l s h => hQp c l s h) rfl (fun s' K hK => ?_) rfl rfl (fun _ => hR) ?_
  · refine o_nilck rfl ?_
    exact hK
  try dsimp only [putL, setL, evL, getL]
  refine HK_readP 4 (v := .pointer (some ⟨bp0, 0 + 1, none⟩)) rfl (by kernel_rfl) (fun c l s h => hQp c l s h) rfl (fun s' K hK => ?_) rfl rfl (fun _ => hR) ?_
  · refine o_faddr' (ft := 24) (off := 1) rfl Try.underlying37 rfl tI24 (by decide) ?_
    exact hK
  try dsimp only [putL, setL, evL, getL]
  refine HK_read 5 (v := .slice A0_1p p0_1.length c0_1p) rfl (by kernel_rfl) (fun c l s h => hQp c l s h) rfl (fun s' hR' K hK => ?_) rfl rfl hR ?_
  · refine o_load' rfl Try.underlying24 rfl (has_gro hR' (hH0.hasv 0 rfl rfl)) ?_
    exact hK
  try dsimp only [putL, setL, evL, getL]
  refine HK_readP 6 (v := .int .i64 p1) rfl (by kernel_rfl) (fun c l s h => hQp c l s h) rfl (fun s' K hK => ?_) rfl rfl (fun _ => hR) ?_
  · refine o_move ?_
    exact hK
  try dsimp only [putL, setL, evL, getL]
  replace H := headE H
  obtain ⟨x10, hx10, H⟩ := H
  refine HK_readP 7 (v := .slice (cutA A0_1p c0_1p (Int.toNat p1) (Kd.sz KI)) x10.length (c0_1p - Int.toNat p1)) rfl (by kernel_rfl) (fun c l s h => hQp c l s h) rfl (fun s' K hK => ?_) rfl rfl (fun _ => hR) ?_
  · refine o_cutA (xs := p0_1) (kl := .i64) (kh := .i64) (L := p1) (H := (p0_1.length : Int)) rfl rfl rfl Try.underlying24 tI3 HRp0_1.1 hx10 ?_
    exact hK
  have D10 := HRp0_1.cut hx10
  try dsimp only [putL, setL, evL, getL]
  refine HK_readP 9 (v := .pointer (some ⟨bp0, 0, none⟩)) rfl (by kernel_rfl) (fun c l s h => hQp c l s h) rfl (fun s' K hK => ?_) rfl rfl (fun _ => hR) ?_
  · refine o_move ?_
    exact hK
  try dsimp only [putL, setL, evL, getL]
  refine HK_readP 10 (v := .pointer (some ⟨bp0, 0, none⟩)) rfl (by kernel_rfl) (fun c l s h => hQp c l s h) rfl (fun s' K hK => ?_) rfl rfl (fun _ => hR) ?_
  · refine o_nilck rfl ?_
    exact hK
  try dsimp only [putL, setL, evL, getL]
  refine HK_readP 11 (v := .pointer (some ⟨bp0, 0 + 2, none⟩)) rfl (by kernel_rfl) (fun c l s h => hQp c l s h) rfl (fun s' K hK => ?_) rfl rfl (fun _ => hR) ?_
  · refine o_faddr' (ft := 24) (off := 2) rfl Try.underlying37 rfl tI24 (by decide) ?_
    exact hK
  try dsimp only [putL, setL, evL, getL]
  refine HK_read 12 (v := .slice A0_2p p0_2.length c0_2p) rfl (by kernel_rfl) (fun c l s h => hQp c l s h) rfl (fun s' hR' K hK => ?_) rfl rfl hR ?_
  · refine o_load' rfl Try.underlying24 rfl (has_gro hR' (hH0.hasv 0 rfl rfl)) ?_
    exact hK
  try dsimp only [putL, setL, evL, getL]
  refine HK_readP 13 (v := .int .i64 p1) rfl (by kernel_rfl) (fun c l s h => hQp c l s h) rfl (fun s' K hK => ?_) rfl rfl (fun _ => hR) ?_
  · refine o_move ?_
    exact hK
  try dsimp only [putL, setL, evL, getL]
  replace H := headE H
  obtain ⟨x11, hx11, H⟩ := H
  refine HK_readP 14 (v := .slice (cutA A0_2p c0_2p (Int.toNat p1) (Kd.sz KI)) x11.length (c0_2p - Int.toNat p1)) rfl (by kernel_rfl) (fun c l s h => hQp c l s h) rfl (fun s' K hK => ?_) rfl rfl (fun _ => hR) ?_
  · refine o_cutA (xs := p0_2) (kl := .i64) (kh := .i64) (L := p1) (H := (p0_2.length : Int)) rfl rfl rfl Try.underlying24 tI3 HRp0_2.1 hx11 ?_
    exact hK
  have D11 := HRp0_2.cut hx11
  try dsimp only [putL, setL, evL, getL]
  refine HK_readP 0 (v := .pointer (some ⟨bp0, 0, none⟩)) rfl (by kernel_rfl) (fun c l s h => hQp c l s h) rfl (fun s' K hK => ?_) rfl rfl (fun _ => hR) ?_
  · refine o_move ?_
    exact hK
  try dsimp only [putL, setL, evL, getL]
  refine HK_readP 1 (v := .pointer (some ⟨bp0, 0, none⟩)) rfl (by kernel_rfl) (fun c l s h => hQp c l s h) rfl (fun s' K hK => ?_) rfl rfl (fun _ => hR) ?_
  · refine o_move ?_
    exact hK
  try dsimp only [putL, setL, evL, getL]
  refine HK_more [8] (by kernel_rfl) rfl (fun _ => hR) ⟨⟨_, rfl, Or.inl ⟨rfl, ?_⟩⟩, trivial⟩
  replace H := headE H
  obtain ⟨u12, hu12, H⟩ := H
  skip
  refine o_call (args := #[.slice (cutA A0_1p c0_1p (Int.toNat p1) (Kd.sz KI)) x10.length (c0_1p - Int.toNat p1)]) Try.func141 rfl rfl rfl (slices_Clone_int_int.ok sb s8 no (cutA A0_1p c0_1p (Int.toNat p1) (Kd.sz KI)) (c0_1p - Int.toNat p1) x10 D10 (Hp.own hH.bs) _ hu12) ?_
  rintro _ s12 ⟨A13, c13, rfl, hD⟩
  replace hR := hR.trans hD.gro
  replace hH := hH.back0 hD (Up.refl _ _ _)
  clear hD
  dsimp only [addC, setC, rmC, selC, getC] at hH
  try dsimp only [putL, setL, evL, getL]
  refine HK_more [15] (by kernel_rfl) rfl (fun _ => hR) ⟨⟨_, rfl, Or.inl ⟨rfl, ?_⟩⟩, trivial⟩
  replace H := headE H
  obtain ⟨u14, hu14, H⟩ := H
  skip
  refine o_call (args := #[.slice (cutA A0_2p c0_2p (Int.toNat p1) (Kd.sz KI)) x11.length (c0_2p - Int.toNat p1)]) Try.func141 rfl rfl rfl (slices_Clone_int_int.ok sb s12 no (cutA A0_2p c0_2p (Int.toNat p1) (Kd.sz KI)) (c0_2p - Int.toNat p1) x11 D11 (Hp.own hH.bs) _ hu14) ?_
  rintro _ s14 ⟨A15, c15, rfl, hD⟩
  replace hR := hR.trans hD.gro
  replace hH := hH.back0 hD (Up.refl _ _ _)
  clear hD
  dsimp only [addC, setC, rmC, selC, getC] at hH
  try dsimp only [putL, setL, evL, getL]
  refine HK_readP 16 (v := .pointer (some ⟨bp0, 0, none⟩)) rfl (by kernel_rfl) (fun c l s h => hQp c l s h) rfl (fun s' K hK => ?_) rfl rfl (fun _ => hR) ?_
  · refine o_nilck rfl ?_
    exact hK
  try dsimp only [putL, setL, evL, getL]
  refine HK_readP 17 (v := .pointer (some ⟨bp0, 0 + 1, none⟩)) rfl (by kernel_rfl) (fun c l s h => hQp c l s h) rfl (fun s' K hK => ?_) rfl rfl (fun _ => hR) ?_
  · refine o_faddr' (ft := 24) (off := 1) rfl Try.underlying37 rfl tI24 (by decide) ?_
    exact hK
  try dsimp only [putL, setL, evL, getL]
  refine HK_more [18] (by kernel_rfl) rfl (fun _ => hR) ⟨⟨_, rfl, Or.inl ⟨rfl, ?_⟩⟩, trivial⟩
  skip
  refine o_stvH (vs := [.slice A13 u12.length c13]) (us' := [.int .i64 p0_0, .slice A13 u12.length c13, .slice A0_2p p0_2.length c0_2p, .int .i64 u7]) hH 0 rfl rfl rfl rfl rfl tI24 rfl (List.cons_ne_nil _ _) rfl rfl rfl ?_
  intro s16 hH'
  replace hH : Hp sb s F0 s16 [Ck.ov bp0 [.int .i64 p0_0, .slice A13 u12.length c13, .slice A0_2p p0_2.length c0_2p, .int .i64 u7] 37, Ck.ol OI 3 A5 c5 u4, Ck.ol OI 3 A13 c13 u12, Ck.ol OI 3 A15 c15 u14] := hH'
  clear hH'
  try dsimp only [putL, setL, evL, getL]
  refine HK_free (by kernel_rfl) ?_
  refine HX_lim (R := fun _ => True) (k := 0) (fun s' => Gro s16 s') 21 ?_
  have hR := Gro.refl s16
  have hH0 := hH
  refine HK_readP 19 (v := .pointer (some ⟨bp0, 0, none⟩)) rfl (by kernel_rfl) (fun c l s h => hQp c l s h) rfl (fun s' K hK => ?_) rfl rfl (fun _ => hR) ?_
  · refine o_nilck rfl ?_
    exact hK
  try dsimp only [putL, setL, evL, getL]
  refine HK_readP 20 (v := .pointer (some ⟨bp0, 0 + 2, none⟩)) rfl (by kernel_rfl) (fun c l s h => hQp c l s h) rfl (fun s' K hK => ?_) rfl rfl (fun _ => hR) ?_
  · refine o_faddr' (ft := 24) (off := 2) rfl Try.underlying37 rfl tI24 (by decide) ?_
    exact hK
  try dsimp only [putL, setL, evL, getL]
  refine HK_more [21] (by kernel_rfl) rfl (fun _ => hR) ⟨⟨_, rfl, Or.inl ⟨rfl, ?_⟩⟩, trivial⟩
  skip
  refine o_stvH (vs := [.slice A15 u14.length c15]) (us' := [.int .i64 p0_0, .slice A13 u12.length c13, .slice A15 u14.length c15, .int .i64 u7]) hH 0 rfl rfl rfl rfl rfl tI24 rfl (List.cons_ne_nil _ _) rfl rfl rfl ?_
  intro s17 hH'
  replace hH : Hp sb s F0 s17 [Ck.ov bp0 [.int .i64 p0_0, .slice A13 u12.length c13, .slice A15 u14.length c15, .int .i64 u7] 37, Ck.ol OI 3 A5 c5 u4, Ck.ol OI 3 A13 c13 u12, Ck.ol OI 3 A15 c15 u14] := hH'
  clear hH'
  try dsimp only [putL, setL, evL, getL]
  refine HK_free (by kernel_rfl) ?_
  refine HX_done (by kernel_rfl) ?_
  refine hK9 _ _ ?_
  refine HT_seq_k ?_
  intro K18 hK18
  refine HT_region ?_
  refine HL_cons rfl ?_
  refine o_move ?_
  try dsimp only [putL, setL, evL, getL]
  refine HL_cons rfl ?_
  refine o_assign ?_
  try dsimp only [putL, setL, evL, getL]
  refine HL_nil ?_
  refine hK18 _ _ ?_
  refine HT_ret ?_
  exact hQr _ _ [.slice A5 u4.length c5] ⟨rfl, trivial⟩ (retH (fun r => impl_Buf_take.post sb s F0 bp0 p0_0 r _ _) (show some _ = some r from H) ⟨A5, c5, A13, c13, A15, c15, rfl, hH.sel [1, 2, 3, 0] (by decide)⟩)
def impl_Buf_put.f (p0_0 : Int) (p0_1 : List (Int)) (p0_2 : List (Int)) (p0_3 : Int) (p1 : List (Int)) (p2 : List (Int)) : Option ((List (Int)) × Bool × (List (Int)) × (List (Int)) × Int) := ((slices_Concat_int_int.f [p0_1, p1]).bind fun u29 => (slices_Concat_int_int.f [p0_2, p2]).bind fun u32 => some (u29, u32)).bind fun (o : (List (Int)) × (List (Int))) => match o with | (x26, x27) => ((impl_Buf_take.f p0_0 x26 x27 p0_3 (max 0 (IntKind.i64.wrap ((x26.length : Int) - p0_0)))).bind fun u53 => (impl_GoodBuf.f p0_0 u53.2.1 u53.2.2.1 u53.2.2.2).bind fun u58 => some (u53.1, u58, u53.2.1, u53.2.2.1, u53.2.2.2))
def impl_Buf_put.post (sb s : St) (F0 : Fp) (bp0 : Nat) (p0_0 : Int) (r : (List (Int)) × Bool × (List (Int)) × (List (Int)) × Int) : Value → St → Prop := fun v s' => ∃ (A0 : Option Addr) (c0 : Nat) (A2 : Option Addr) (c2 : Nat) (A3 : Option Addr) (c3 : Nat), v = .tuple #[.slice A0 r.1.length c0, .bool r.2.1] ∧ Hp sb s F0 s' [Ck.ol OI 3 A0 c0 r.1, Ck.ol OI 3 A2 c2 r.2.2.1, Ck.ol OI 3 A3 c3 r.2.2.2.1, Ck.ov bp0 [.int .i64 p0_0, .slice A2 r.2.2.1.length c2, .slice A3 r.2.2.2.1.length c3, .int .i64 r.2.2.2.2] 37]
set_option maxRecDepth 100000 in
set_option maxHeartbeats 4000000 in
theorem impl_Buf_put.ok (sb s : St) (F0 : Fp) (bp0 : Nat) (p0_0 : Int) (A0_1p : Option Addr) (c0_1p : Nat) (p0_1 : List (Int)) (A0_2p : Option Addr) (c0_2p : Nat) (p0_2 : List (Int)) (p0_3 : Int) (A1p : Option Addr) (c1p : Nat) (p1 : List (Int)) (A2p : Option Addr) (c2p : Nat) (p2 : List (Int)) (HRp0_1 : Rd KI sb A0_1p c0_1p p0_1) (HRp0_2 : Rd KI sb A0_2p c0_2p p0_2) (HRp1 : Rd KI sb A1p c1p p1) (HRp2 : Rd KI sb A2p c2p p2) (hH : Hp sb s F0 s [Ck.ov bp0 [.int .i64 p0_0, .slice A0_1p p0_1.length c0_1p, .slice A0_2p p0_2.length c0_2p, .int .i64 p0_3] 37]) (r : (List (Int)) × Bool × (List (Int)) × (List (Int)) × Int) (H : impl_Buf_put.f p0_0 p0_1 p0_2 p0_3 p1 p2 = some r) : GCall Try.prog 117 #[.pointer (some ⟨bp0, 0, none⟩), .slice A1p p1.length c1p, .slice A2p p2.length c2p] s (impl_Buf_put.post sb s F0 bp0 p0_0 r) := by
  refine GCall_ofk [.tmp 6, .tmp 7] [.pointer (some ⟨bp0, 0, none⟩), .slice A1p p1.length c1p, .slice A2p p2.length c2p, undef, undef, undef, undef, undef, undef, undef, undef, undef, undef, undef, undef, undef, undef, undef, undef, undef, undef, undef, undef, undef, undef, undef, undef, undef, undef, undef, undef, undef, undef, undef, undef, undef, undef, undef, undef, undef, undef, undef, undef, undef, undef, undef, undef] Try.func117 rfl rfl rfl ?_
  intro w Q hQr hQn hQp
  replace H := topE H
  unfold impl_Buf_put.f at H
  refine HT_seq_k ?_
  intro K1 hK1
  refine HT_region ?_
  refine HL_cons rfl ?_
  refine o_assign ?_
  try dsimp only [putL, setL, evL, getL]
  refine HL_cons rfl ?_
  refine o_assign ?_
  try dsimp only [putL, setL, evL, getL]
  refine HL_nil ?_
  refine hK1 _ _ ?_
  refine joinH H fun G2 hG2 H => ?_
  refine HT_joinK (fun l' s' => ∃ (x26 : List (Int)) (A26 : Option Addr) (c26 : Nat) (x27 : List (Int)) (A27 : Option Addr) (c27 : Nat), G2 (x26, x27) = some r ∧ l' = [.pointer (some ⟨bp0, 0, none⟩), .slice A1p p1.length c1p, .slice A2p p2.length c2p, undef, undef, undef, .slice none 0 0, .bool false, undef, getL l' 9, getL l' 10, getL l' 11, getL l' 12, getL l' 13, getL l' 14, getL l' 15, getL l' 16, getL l' 17, getL l' 18, getL l' 19, getL l' 20, getL l' 21, getL l' 22, getL l' 23, getL l' 24, getL l' 25, getL l' 26, getL l' 27, getL l' 28, undef, undef, undef, undef, undef, undef, undef, undef, undef, undef, undef, undef, undef, undef, undef, undef, undef, undef] ∧ Hp sb s F0 s' [Ck.ol OI 3 A26 c26 x26, Ck.ol OI 3 A27 c27 x27, Ck.ov bp0 [.int .i64 p0_0, .slice A26 x26.length c26, .slice A27 x27.length c27, .int .i64 p0_3] 37]) ?_ ?_
  · intro K2 hK2
    refine HX_draw hMix ?_
    refine HX_lim (R := fun _ => True) (k := 0) (fun s' => Gro s s') 18 ?_
    have hR := Gro.refl s
    have hH0 := hH
    refine HK_readP 2 (v := .pointer (some ⟨bp0, 0, none⟩)) rfl (by kernel_rfl) (fun c l s h => hQp c l s h) rfl (fun s' K hK => ?_) rfl rfl (fun _ => hR) ?_
    · refine o_move ?_
      exact hK
    try dsimp only [putL, setL, evL, getL]
    refine HK_readP 3 (v := .pointer (some ⟨bp0, 0, none⟩)) rfl (by kernel_rfl) (fun c l s h => hQp c l s h) rfl (fun s' K hK => ?_) rfl rfl (fun _ => hR) ?_
    · refine o_nilck rfl ?_
      exact hK
    try dsimp only [putL, setL, evL, getL]
    refine HK_readP 4 (v := .pointer (some ⟨bp0, 0 + 1, none⟩)) rfl (by kernel_rfl) (fun c l s h => hQp c l s h) rfl (fun s' K hK => ?_) rfl rfl (fun _ => hR) ?_
    · refine o_faddr' (ft := 24) (off := 1) rfl Try.underlying37 rfl tI24 (by decide) ?_
      exact hK
    try dsimp only [putL, setL, evL, getL]
    refine HK_read 5 (v := .slice A0_1p p0_1.length c0_1p) rfl (by kernel_rfl) (fun c l s h => hQp c l s h) rfl (fun s' hR' K hK => ?_) rfl rfl hR ?_
    · refine o_load' rfl Try.underlying24 rfl (has_gro hR' (hH0.hasv 0 rfl rfl)) ?_
      exact hK
    try dsimp only [putL, setL, evL, getL]
    refine HK_readP 6 (v := .slice A1p p1.length c1p) rfl (by kernel_rfl) (fun c l s h => hQp c l s h) rfl (fun s' K hK => ?_) rfl rfl (fun _ => hR) ?_
    · refine o_move ?_
      exact hK
    try dsimp only [putL, setL, evL, getL]
    refine HK_readP 9 (v := .pointer (some ⟨bp0, 0, none⟩)) rfl (by kernel_rfl) (fun c l s h => hQp c l s h) rfl (fun s' K hK => ?_) rfl rfl (fun _ => hR) ?_
    · refine o_move ?_
      exact hK
    try dsimp only [putL, setL, evL, getL]
    refine HK_readP 10 (v := .pointer (some ⟨bp0, 0, none⟩)) rfl (by kernel_rfl) (fun c l s h => hQp c l s h) rfl (fun s' K hK => ?_) rfl rfl (fun _ => hR) ?_
    · refine o_nilck rfl ?_
      exact hK
    try dsimp only [putL, setL, evL, getL]
    refine HK_readP 11 (v := .pointer (some ⟨bp0, 0 + 2, none⟩)) rfl (by kernel_rfl) (fun c l s h => hQp c l s h) rfl (fun s' K hK => ?_) rfl rfl (fun _ => hR) ?_
    · refine o_faddr' (ft := 24) (off := 2) rfl Try.underlying37 rfl tI24 (by decide) ?_
      exact hK
    try dsimp only [putL, setL, evL, getL]
    refine HK_read 12 (v := .slice A0_2p p0_2.length c0_2p) rfl (by kernel_rfl) (fun c l s h => hQp c l s h) rfl (fun s' hR' K hK => ?_) rfl rfl hR ?_
    · refine o_load' rfl Try.underlying24 rfl (has_gro hR' (hH0.hasv 0 rfl rfl)) ?_
      exact hK
    try dsimp only [putL, setL, evL, getL]
    refine HK_readP 13 (v := .slice A2p p2.length c2p) rfl (by kernel_rfl) (fun c l s h => hQp c l s h) rfl (fun s' K hK => ?_) rfl rfl (fun _ => hR) ?_
    · refine o_move ?_
      exact hK
    try dsimp only [putL, setL, evL, getL]
    refine HK_readP 0 (v := .pointer (some ⟨bp0, 0, none⟩)) rfl (by kernel_rfl) (fun c l s h => hQp c l s h) rfl (fun s' K hK => ?_) rfl rfl (fun _ => hR) ?_
    · refine o_move ?_
      exact hK
    try dsimp only [putL, setL, evL, getL]
    refine HK_readP 1 (v := .pointer (some ⟨bp0, 0, none⟩)) rfl (by kernel_rfl) (fun c l s h => hQp c l s h) rfl (fun s' K hK => ?_) rfl rfl (fun _ => hR) ?_
    · refine o_move ?_
      exact hK
    try dsimp only [putL, setL, evL, getL]
    refine HK_more [7, 14] (by kernel_rfl) rfl (fun _ => hR) ⟨⟨_, rfl, Or.inl ⟨rfl, ?_⟩⟩, ⟨_, rfl, Or.inl ⟨rfl, ?_⟩⟩, trivial⟩
    · skip
      refine o_litF (K := (Kd.sl KI)) (O := (Ow.lent (Kd.sl KI))) (ca := #[.slice A0_1p p0_1.length c0_1p, .slice A1p p1.length c1p]) [[.slice A0_1p p0_1.length c0_1p], [.slice A1p p1.length c1p]] [p0_1, p1] hH Try.underlying105 tI24 rfl (by decide) rfl rfl (by kernel_rfl) rfl ⟨rfl, Ent.own (Ent.lent ⟨_, _, rfl, HRp0_1⟩), rfl, Ent.own (Ent.lent ⟨_, _, rfl, HRp1⟩), trivial⟩ ?_
      intro A28 s28 hH' hG
      replace hR := hR.trans hG
      replace hH : Hp sb s F0 s28 [Ck.ov bp0 [.int .i64 p0_0, .slice A0_1p p0_1.length c0_1p, .slice A0_2p p0_2.length c0_2p, .int .i64 p0_3] 37, Ck.ol (Ow.lent (Kd.sl KI)) 24 A28 2 [p0_1, p1]] := hH'
      clear hH' hG
      try dsimp only [putL, setL, evL, getL]
      refine HK_more [8, 14] (by kernel_rfl) rfl (fun _ => hR) ⟨⟨_, rfl, Or.inl ⟨rfl, ?_⟩⟩, ⟨_, rfl, Or.inl ⟨rfl, ?_⟩⟩, trivial⟩
      · replace H := headE H
        obtain ⟨u29, hu29, H⟩ := H
        skip
        refine o_call (args := #[.slice A28 [p0_1, p1].length 2]) Try.func185 rfl rfl rfl (slices_Concat_int_int.ok s28 s28 no A28 2 [p0_1, p1] (hH.rd 1 rfl) (Hp.own (Bs.refl s28)) _ hu29) ?_
        rintro _ s29 ⟨A30, c30, rfl, hD⟩
        replace hR := hR.trans hD.gro
        replace hH := hH.back0T hD
        clear hD
        dsimp only [addC, setC, rmC, selC, getC] at hH
        try dsimp only [putL, setL, evL, getL]
        refine HK_more [14] (by kernel_rfl) rfl (fun _ => hR) ⟨⟨_, rfl, Or.inl ⟨rfl, ?_⟩⟩, trivial⟩
        skip
        refine o_litF (K := (Kd.sl KI)) (O := (Ow.lent (Kd.sl KI))) (ca := #[.slice A0_2p p0_2.length c0_2p, .slice A2p p2.length c2p]) [[.slice A0_2p p0_2.length c0_2p], [.slice A2p p2.length c2p]] [p0_2, p2] hH Try.underlying105 tI24 rfl (by decide) rfl rfl (by kernel_rfl) rfl ⟨rfl, Ent.own (Ent.lent ⟨_, _, rfl, HRp0_2⟩), rfl, Ent.own (Ent.lent ⟨_, _, rfl, HRp2⟩), trivial⟩ ?_
        intro A31 s31 hH' hG
        replace hR := hR.trans hG
        replace hH : Hp sb s F0 s31 [Ck.ov bp0 [.int .i64 p0_0, .slice A0_1p p0_1.length c0_1p, .slice A0_2p p0_2.length c0_2p, .int .i64 p0_3] 37, Ck.ol (Ow.lent (Kd.sl KI)) 24 A28 2 [p0_1, p1], Ck.ol OI 3 A30 c30 u29, Ck.ol (Ow.lent (Kd.sl KI)) 24 A31 2 [p0_2, p2]] := hH'
        clear hH' hG
        try dsimp only [putL, setL, evL, getL]
        refine HK_more [15] (by kernel_rfl) rfl (fun _ => hR) ⟨⟨_, rfl, Or.inl ⟨rfl, ?_⟩⟩, trivial⟩
        replace H := headE H
        obtain ⟨u32, hu32, H⟩ := H
        skip
        refine o_call (args := #[.slice A31 [p0_2, p2].length 2]) Try.func185 rfl rfl rfl (slices_Concat_int_int.ok s31 s31 no A31 2 [p0_2, p2] (hH.rd 3 rfl) (Hp.own (Bs.refl s31)) _ hu32) ?_
        rintro _ s32 ⟨A33, c33, rfl, hD⟩
        replace hR := hR.trans hD.gro
        replace hH := hH.back0T hD
        clear hD
        dsimp only [addC, setC, rmC, selC, getC] at hH
        try dsimp only [putL, setL, evL, getL]
        refine HK_readP 16 (v := .pointer (some ⟨bp0, 0, none⟩)) rfl (by kernel_rfl) (fun c l s h => hQp c l s h) rfl (fun s' K hK => ?_) rfl rfl (fun _ => hR) ?_
        · refine o_nilck rfl ?_
          exact hK
        try dsimp only [putL, setL, evL, getL]
        refine HK_readP 17 (v := .pointer (some ⟨bp0, 0 + 1, none⟩)) rfl (by kernel_rfl) (fun c l s h => hQp c l s h) rfl (fun s' K hK => ?_) rfl rfl (fun _ => hR) ?_
        · refine o_faddr' (ft := 24) (off := 1) rfl Try.underlying37 rfl tI24 (by decide) ?_
          exact hK
        try dsimp only [putL, setL, evL, getL]
        refine HK_more [18] (by kernel_rfl) rfl (fun _ => hR) ⟨⟨_, rfl, Or.inl ⟨rfl, ?_⟩⟩, trivial⟩
        skip
        refine o_stvH (vs := [.slice A30 u29.length c30]) (us' := [.int .i64 p0_0, .slice A30 u29.length c30, .slice A0_2p p0_2.length c0_2p, .int .i64 p0_3]) hH 0 rfl rfl rfl rfl rfl tI24 rfl (List.cons_ne_nil _ _) rfl rfl rfl ?_
        intro s34 hH'
        replace hH : Hp sb s F0 s34 [Ck.ov bp0 [.int .i64 p0_0, .slice A30 u29.length c30, .slice A0_2p p0_2.length c0_2p, .int .i64 p0_3] 37, Ck.ol (Ow.lent (Kd.sl KI)) 24 A28 2 [p0_1, p1], Ck.ol OI 3 A30 c30 u29, Ck.ol (Ow.lent (Kd.sl KI)) 24 A31 2 [p0_2, p2], Ck.ol OI 3 A33 c33 u32] := hH'
        clear hH'
        try dsimp only [putL, setL, evL, getL]
        refine HK_free (by kernel_rfl) ?_
        refine HX_lim (R := fun _ => True) (k := 0) (fun s' => Gro s34 s') 21 ?_
        have hR := Gro.refl s34
        have hH0 := hH
        refine HK_readP 19 (v := .pointer (some ⟨bp0, 0, none⟩)) rfl (by kernel_rfl) (fun c l s h => hQp c l s h) rfl (fun s' K hK => ?_) rfl rfl (fun _ => hR) ?_
        · refine o_nilck rfl ?_
          exact hK
        try dsimp only [putL, setL, evL, getL]
        refine HK_readP 20 (v := .pointer (some ⟨bp0, 0 + 2, none⟩)) rfl (by kernel_rfl) (fun c l s h => hQp c l s h) rfl (fun s' K hK => ?_) rfl rfl (fun _ => hR) ?_
        · refine o_faddr' (ft := 24) (off := 2) rfl Try.underlying37 rfl tI24 (by decide) ?_
          exact hK
        try dsimp only [putL, setL, evL, getL]
        refine HK_more [21] (by kernel_rfl) rfl (fun _ => hR) ⟨⟨_, rfl, Or.inl ⟨rfl, ?_⟩⟩, trivial⟩
        skip
        refine o_stvH (vs := [.slice A33 u32.length c33]) (us' := [.int .i64 p0_0, .slice A30 u29.length c30, .slice A33 u32.length c33, .int .i64 p0_3]) hH 0 rfl rfl rfl rfl rfl tI24 rfl (List.cons_ne_nil _ _) rfl rfl rfl ?_
        intro s35 hH'
        replace hH : Hp sb s F0 s35 [Ck.ov bp0 [.int .i64 p0_0, .slice A30 u29.length c30, .slice A33 u32.length c33, .int .i64 p0_3] 37, Ck.ol (Ow.lent (Kd.sl KI)) 24 A28 2 [p0_1, p1], Ck.ol OI 3 A30 c30 u29, Ck.ol (Ow.lent (Kd.sl KI)) 24 A31 2 [p0_2, p2], Ck.ol OI 3 A33 c33 u32] := hH'
        clear hH'
        try dsimp only [putL, setL, evL, getL]
        refine HK_free (by kernel_rfl) ?_
        refine HX_done (by kernel_rfl) ?_
        exact hK2 _ _ ⟨u29, A30, c30, u32, A33, c33, H, rfl, hH.sel [2, 4, 0] (by decide)⟩
      · skip
        refine o_litF (K := (Kd.sl KI)) (O := (Ow.lent (Kd.sl KI))) (ca := #[.slice A0_2p p0_2.length c0_2p, .slice A2p p2.length c2p]) [[.slice A0_2p p0_2.length c0_2p], [.slice A2p p2.length c2p]] [p0_2, p2] hH Try.underlying105 tI24 rfl (by decide) rfl rfl (by kernel_rfl) rfl ⟨rfl, Ent.own (Ent.lent ⟨_, _, rfl, HRp0_2⟩), rfl, Ent.own (Ent.lent ⟨_, _, rfl, HRp2⟩), trivial⟩ ?_
        intro A36 s36 hH' hG
        replace hR := hR.trans hG
        replace hH : Hp sb s F0 s36 [Ck.ov bp0 [.int .i64 p0_0, .slice A0_1p p0_1.length c0_1p, .slice A0_2p p0_2.length c0_2p, .int .i64 p0_3] 37, Ck.ol (Ow.lent (Kd.sl KI)) 24 A28 2 [p0_1, p1], Ck.ol (Ow.lent (Kd.sl KI)) 24 A36 2 [p0_2, p2]] := hH'
        clear hH' hG
        try dsimp only [putL, setL, evL, getL]
        refine HK_more [8] (by kernel_rfl) rfl (fun _ => hR) ⟨⟨_, rfl, Or.inl ⟨rfl, ?_⟩⟩, trivial⟩
        replace H := headE H
        obtain ⟨u37, hu37, H⟩ := H
        skip
        refine o_call (args := #[.slice A28 [p0_1, p1].length 2]) Try.func185 rfl rfl rfl (slices_Concat_int_int.ok s36 s36 no A28 2 [p0_1, p1] (hH.rd 1 rfl) (Hp.own (Bs.refl s36)) _ hu37) ?_
        rintro _ s37 ⟨A38, c38, rfl, hD⟩
        replace hR := hR.trans hD.gro
        replace hH := hH.back0T hD
        clear hD
        dsimp only [addC, setC, rmC, selC, getC] at hH
        try dsimp only [putL, setL, evL, getL]
        refine HK_more [15] (by kernel_rfl) rfl (fun _ => hR) ⟨⟨_, rfl, Or.inl ⟨rfl, ?_⟩⟩, trivial⟩
        replace H := headE H
        obtain ⟨u39, hu39, H⟩ := H
        skip
        refine o_call (args := #[.slice A36 [p0_2, p2].length 2]) Try.func185 rfl rfl rfl (slices_Concat_int_int.ok s37 s37 no A36 2 [p0_2, p2] (hH.rd 2 rfl) (Hp.own (Bs.refl s37)) _ hu39) ?_
        rintro _ s39 ⟨A40, c40, rfl, hD⟩
        replace hR := hR.trans hD.gro
        replace hH := hH.back0T hD
        clear hD
        dsimp only [addC, setC, rmC, selC, getC] at hH
        try dsimp only [putL, setL, evL, getL]
        refine HK_readP 16 (v := .pointer (some ⟨bp0, 0, none⟩)) rfl (by kernel_rfl) (fun c l s h => hQp c l s h) rfl (fun s' K hK => ?_) rfl rfl (fun _ => hR) ?_
        · refine o_nilck rfl ?_
          exact hK
        try dsimp only [putL, setL, evL, getL]
        refine HK_readP 17 (v := .pointer (some ⟨bp0, 0 + 1, none⟩)) rfl (by kernel_rfl) (fun c l s h => hQp c l s h) rfl (fun s' K hK => ?_) rfl rfl (fun _ => hR) ?_
        · refine o_faddr' (ft := 24) (off := 1) rfl Try.underlying37 rfl tI24 (by decide) ?_
          exact hK
        try dsimp only [putL, setL, evL, getL]
        refine HK_more [18] (by kernel_rfl) rfl (fun _ => hR) ⟨⟨_, rfl, Or.inl ⟨rfl, ?_⟩⟩, trivial⟩
        skip
        refine o_stvH (vs := [.slice A38 u37.length c38]) (us' := [.int .i64 p0_0, .slice A38 u37.length c38, .slice A0_2p p0_2.length c0_2p, .int .i64 p0_3]) hH 0 rfl rfl rfl rfl rfl tI24 rfl (List.cons_ne_nil _ _) rfl rfl rfl ?_
        intro s41 hH'
        replace hH : Hp sb s F0 s41 [Ck.ov bp0 [.int .i64 p0_0, .slice A38 u37.length c38, .slice A0_2p p0_2.length c0_2p, .int .i64 p0_3] 37, Ck.ol (Ow.lent (Kd.sl KI)) 24 A28 2 [p0_1, p1], Ck.ol (Ow.lent (Kd.sl KI)) 24 A36 2 [p0_2, p2], Ck.ol OI 3 A38 c38 u37, Ck.ol OI 3 A40 c40 u39] := hH'
        clear hH'
        try dsimp only [putL, setL, evL, getL]
        refine HK_free (by kernel_rfl) ?_
        refine HX_lim (R := fun _ => True) (k := 0) (fun s' => Gro s41 s') 21 ?_
        have hR := Gro.refl s41
        have hH0 := hH
        refine HK_readP 19 (v := .pointer (some ⟨bp0, 0, none⟩)) rfl (by kernel_rfl) (fun c l s h => hQp c l s h) rfl (fun s' K hK => ?_) rfl rfl (fun _ => hR) ?_
        · refine o_nilck rfl ?_
          exact hK
        try dsimp only [putL, setL, evL, getL]
        refine HK_readP 20 (v := .pointer (some ⟨bp0, 0 + 2, none⟩)) rfl (by kernel_rfl) (fun c l s h => hQp c l s h) rfl (fun s' K hK => ?_) rfl rfl (fun _ => hR) ?_
        · refine o_faddr' (ft := 24) (off := 2) rfl Try.underlying37 rfl tI24 (by decide) ?_
          exact hK
        try dsimp only [putL, setL, evL, getL]
        refine HK_more [21] (by kernel_rfl) rfl (fun _ => hR) ⟨⟨_, rfl, Or.inl ⟨rfl, ?_⟩⟩, trivial⟩
        skip
        refine o_stvH (vs := [.slice A40 u39.length c40]) (us' := [.int .i64 p0_0, .slice A38 u37.length c38, .slice A40 u39.length c40, .int .i64 p0_3]) hH 0 rfl rfl rfl rfl rfl tI24 rfl (List.cons_ne_nil _ _) rfl rfl rfl ?_
        intro s42 hH'
        replace hH : Hp sb s F0 s42 [Ck.ov bp0 [.int .i64 p0_0, .slice A38 u37.length c38, .slice A40 u39.length c40, .int .i64 p0_3] 37, Ck.ol (Ow.lent (Kd.sl KI)) 24 A28 2 [p0_1, p1], Ck.ol (Ow.lent (Kd.sl KI)) 24 A36 2 [p0_2, p2], Ck.ol OI 3 A38 c38 u37, Ck.ol OI 3 A40 c40 u39] := hH'
        clear hH'
        try dsimp only [putL, setL, evL, getL]
        refine HK_free (by kernel_rfl) ?_
        refine HX_done (by kernel_rfl) ?_
        exact hK2 _ _ ⟨u37, A38, c38, u39, A40, c40, H, rfl, hH.sel [3, 4, 0] (by decide)⟩
    · skip
      refine o_litF (K := (Kd.sl KI)) (O := (Ow.lent (Kd.sl KI))) (ca := #[.slice A0_2p p0_2.length c0_2p, .slice A2p p2.length c2p]) [[.slice A0_2p p0_2.length c0_2p], [.slice A2p p2.length c2p]] [p0_2, p2] hH Try.underlying105 tI24 rfl (by decide) rfl rfl (by kernel_rfl) rfl ⟨rfl, Ent.own (Ent.lent ⟨_, _, rfl, HRp0_2⟩), rfl, Ent.own (Ent.lent ⟨_, _, rfl, HRp2⟩), trivial⟩ ?_
      intro A43 s43 hH' hG
      replace hR := hR.trans hG
      replace hH : Hp sb s F0 s43 [Ck.ov bp0 [.int .i64 p0_0, .slice A0_1p p0_1.length c0_1p, .slice A0_2p p0_2.length c0_2p, .int .i64 p0_3] 37, Ck.ol (Ow.lent (Kd.sl KI)) 24 A43 2 [p0_2, p2]] := hH'
      clear hH' hG
      try dsimp only [putL, setL, evL, getL]
      refine HK_more [7] (by kernel_rfl) rfl (fun _ => hR) ⟨⟨_, rfl, Or.inl ⟨rfl, ?_⟩⟩, trivial⟩
      skip
      refine o_litF (K := (Kd.sl KI)) (O := (Ow.lent (Kd.sl KI))) (ca := #[.slice A0_1p p0_1.length c0_1p, .slice A1p p1.length c1p]) [[.slice A0_1p p0_1.length c0_1p], [.slice A1p p1.length c1p]] [p0_1, p1] hH Try.underlying105 tI24 rfl (by decide) rfl rfl (by kernel_rfl) rfl ⟨rfl, Ent.own (Ent.lent ⟨_, _, rfl, HRp0_1⟩), rfl, Ent.own (Ent.lent ⟨_, _, rfl, HRp1⟩), trivial⟩ ?_
      intro A44 s44 hH' hG
      replace hR := hR.trans hG
      replace hH : Hp sb s F0 s44 [Ck.ov bp0 [.int .i64 p0_0, .slice A0_1p p0_1.length c0_1p, .slice A0_2p p0_2.length c0_2p, .int .i64 p0_3] 37, Ck.ol (Ow.lent (Kd.sl KI)) 24 A43 2 [p0_2, p2], Ck.ol (Ow.lent (Kd.sl KI)) 24 A44 2 [p0_1, p1]] := hH'
      clear hH' hG
      try dsimp only [putL, setL, evL, getL]
      refine HK_more [8] (by kernel_rfl) rfl (fun _ => hR) ⟨⟨_, rfl, Or.inl ⟨rfl, ?_⟩⟩, trivial⟩
      replace H := headE H
      obtain ⟨u45, hu45, H⟩ := H
      skip
      refine o_call (args := #[.slice A44 [p0_1, p1].length 2]) Try.func185 rfl rfl rfl (slices_Concat_int_int.ok s44 s44 no A44 2 [p0_1, p1] (hH.rd 2 rfl) (Hp.own (Bs.refl s44)) _ hu45) ?_
      rintro _ s45 ⟨A46, c46, rfl, hD⟩
      replace hR := hR.trans hD.gro
      replace hH := hH.back0T hD
      clear hD
      dsimp only [addC, setC, rmC, selC, getC] at hH
      try dsimp only [putL, setL, evL, getL]
      refine HK_more [15] (by kernel_rfl) rfl (fun _ => hR) ⟨⟨_, rfl, Or.inl ⟨rfl, ?_⟩⟩, trivial⟩
      replace H := headE H
      obtain ⟨u47, hu47, H⟩ := H
      skip
      refine o_call (args := #[.slice A43 [p0_2, p2].length 2]) Try.func185 rfl rfl rfl (slices_Concat_int_int.ok s45 s45 no A43 2 [p0_2, p2] (hH.rd 1 rfl) (Hp.own (Bs.refl s45)) _ hu47) ?_
      rintro _ s47 ⟨A48, c48, rfl, hD⟩
      replace hR := hR.trans hD.gro
      replace hH := hH.back0T hD
      clear hD
      dsimp only [addC, setC, rmC, selC, getC] at hH
      try dsimp only [putL, setL, evL, getL]
      refine HK_readP 16 (v := .pointer (some ⟨bp0, 0, none⟩)) rfl (by kernel_rfl) (fun c l s h => hQp c l s h) rfl (fun s' K hK => ?_) rfl rfl (fun _ => hR) ?_
      · refine o_nilck rfl ?_
        exact hK
      try dsimp only [putL, setL, evL, getL]
      refine HK_readP 17 (v := .pointer (some ⟨bp0, 0 + 1, none⟩)) rfl (by kernel_rfl) (fun c l s h => hQp c l s h) rfl (fun s' K hK => ?_) rfl rfl (fun _ => hR) ?_
      · refine o_faddr' (ft := 24) (off := 1) rfl Try.underlying37 rfl tI24 (by decide) ?_
        exact hK
      try dsimp only [putL, setL, evL, getL]
      refine HK_more [18] (by kernel_rfl) rfl (fun _ => hR) ⟨⟨_, rfl, Or.inl ⟨rfl, ?_⟩⟩, trivial⟩
      skip
      refine o_stvH (vs := [.slice A46 u45.length c46]) (us' := [.int .i64 p0_0, .slice A46 u45.length c46, .slice A0_2p p0_2.length c0_2p, .int .i64 p0_3]) hH 0 rfl rfl rfl rfl rfl tI24 rfl (List.cons_ne_nil _ _) rfl rfl rfl ?_
      intro s49 hH'
      replace hH : Hp sb s F0 s49 [Ck.ov bp0 [.int .i64 p0_0, .slice A46 u45.length c46, .slice A0_2p p0_2.length c0_2p, .int .i64 p0_3] 37, Ck.ol (Ow.lent (Kd.sl KI)) 24 A43 2 [p0_2, p2], Ck.ol (Ow.lent (Kd.sl KI)) 24 A44 2 [p0_1, p1], Ck.ol OI 3 A46 c46 u45, Ck.ol OI 3 A48 c48 u47] := hH'
      clear hH'
      try dsimp only [putL, setL, evL, getL]
      refine HK_free (by kernel_rfl) ?_
      refine HX_lim (R := fun _ => True) (k := 0) (fun s' => Gro s49 s') 21 ?_
      have hR := Gro.refl s49
      have hH0 := hH
      refine HK_readP 19 (v := .pointer (some ⟨bp0, 0, none⟩)) rfl (by kernel_rfl) (fun c l s h => hQp c l s h) rfl (fun s' K hK => ?_) rfl rfl (fun _ => hR) ?_
      · refine o_nilck rfl ?_
        exact hK
      try dsimp only [putL, setL, evL, getL]
      refine HK_readP 20 (v := .pointer (some ⟨bp0, 0 + 2, none⟩)) rfl (by kernel_rfl) (fun c l s h => hQp c l s h) rfl (fun s' K hK => ?_) rfl rfl (fun _ => hR) ?_
      · refine o_faddr' (ft := 24) (off := 2) rfl Try.underlying37 rfl tI24 (by decide) ?_
        exact hK
      try dsimp only [putL, setL, evL, getL]
      refine HK_more [21] (by kernel_rfl) rfl (fun _ => hR) ⟨⟨_, rfl, Or.inl ⟨rfl, ?_⟩⟩, trivial⟩
      skip
      refine o_stvH (vs := [.slice A48 u47.length c48]) (us' := [.int .i64 p0_0, .slice A46 u45.length c46, .slice A48 u47.length c48, .int .i64 p0_3]) hH 0 rfl rfl rfl rfl rfl tI24 rfl (List.cons_ne_nil _ _) rfl rfl rfl ?_
      intro s50 hH'
      replace hH : Hp sb s F0 s50 [Ck.ov bp0 [.int .i64 p0_0, .slice A46 u45.length c46, .slice A48 u47.length c48, .int .i64 p0_3] 37, Ck.ol (Ow.lent (Kd.sl KI)) 24 A43 2 [p0_2, p2], Ck.ol (Ow.lent (Kd.sl KI)) 24 A44 2 [p0_1, p1], Ck.ol OI 3 A46 c46 u45, Ck.ol OI 3 A48 c48 u47] := hH'
      clear hH'
      try dsimp only [putL, setL, evL, getL]
      refine HK_free (by kernel_rfl) ?_
      refine HX_done (by kernel_rfl) ?_
      exact hK2 _ _ ⟨u45, A46, c46, u47, A48, c48, H, rfl, hH.sel [3, 4, 0] (by decide)⟩
  · rintro l' s51 ⟨x26, A26, c26, x27, A27, c27, H, hl, hH⟩
    generalize getL l' 9 = j9, getL l' 10 = j10, getL l' 11 = j11, getL l' 12 = j12, getL l' 13 = j13, getL l' 14 = j14, getL l' 15 = j15, getL l' 16 = j16, getL l' 17 = j17, getL l' 18 = j18, getL l' 19 = j19, getL l' 20 = j20, getL l' 21 = j21, getL l' 22 = j22, getL l' 23 = j23, getL l' 24 = j24, getL l' 25 = j25, getL l' 26 = j26, getL l' 27 = j27, getL l' 28 = j28 at hl
    subst hl
    replace H := hG2 _ H
    try dsimp only at H
    refine HT_seq_k ?_
    intro K52 hK52
    refine HX_draw hMix ?_
    refine HX_lim (R := fun _ => True) (k := 0) (fun s' => Gro s51 s') 12 ?_
    have hR := Gro.refl s51
    have hH0 := hH
    refine HK_readP 0 (v := .pointer (some ⟨bp0, 0, none⟩)) rfl (by kernel_rfl) (fun c l s h => hQp c l s h) rfl (fun s' K hK => ?_) rfl rfl (fun _ => hR) ?_
    · refine o_move ?_
      exact hK
    try dsimp only [putL, setL, evL, getL]
    refine HK_readP 1 (v := .pointer (some ⟨bp0, 0, none⟩)) rfl (by kernel_rfl) (fun c l s h => hQp c l s h) rfl (fun s' K hK => ?_) rfl rfl (fun _ => hR) ?_
    · refine o_move ?_
      exact hK
    try dsimp only [putL, setL, evL, getL]
    refine HK_readP 2 (v := .pointer (some ⟨bp0, 0, none⟩)) rfl (by kernel_rfl) (fun c l s h => hQp c l s h) rfl (fun s' K hK => ?_) rfl rfl (fun _ => hR) ?_
    · refine o_nilck rfl ?_
      exact hK
    try dsimp only [putL, setL, evL, getL]
    refine HK_readP 3 (v := .pointer (some ⟨bp0, 0 + 1, none⟩)) rfl (by kernel_rfl) (fun c l s h => hQp c l s h) rfl (fun s' K hK => ?_) rfl rfl (fun _ => hR) ?_
    · refine o_faddr' (ft := 24) (off := 1) rfl Try.underlying37 rfl tI24 (by decide) ?_
      exact hK
    try dsimp only [putL, setL, evL, getL]
    refine HK_read 4 (v := .slice A26 x26.length c26) rfl (by kernel_rfl) (fun c l s h => hQp c l s h) rfl (fun s' hR' K hK => ?_) rfl rfl hR ?_
    · refine o_load' rfl Try.underlying24 rfl (has_gro hR' (hH0.hasv 2 rfl rfl)) ?_
      exact hK
    try dsimp only [putL, setL, evL, getL]
    refine HK_readP 5 (v := .int .i64 (x26.length : Int)) rfl (by kernel_rfl) (fun c l s h => hQp c l s h) rfl (fun s' K hK => ?_) rfl rfl (fun _ => hR) ?_
    · refine o_len rfl Try.underlying24 ?_
      exact hK
    try dsimp only [putL, setL, evL, getL]
    refine HK_readP 6 (v := .pointer (some ⟨bp0, 0, none⟩)) rfl (by kernel_rfl) (fun c l s h => hQp c l s h) rfl (fun s' K hK => ?_) rfl rfl (fun _ => hR) ?_
    · refine o_move ?_
      exact hK
    try dsimp only [putL, setL, evL, getL]
    refine HK_readP 7 (v := .pointer (some ⟨bp0, 0, none⟩)) rfl (by kernel_rfl) (fun c l s h => hQp c l s h) rfl (fun s' K hK => ?_) rfl rfl (fun _ => hR) ?_
    · refine o_nilck rfl ?_
      exact hK
    try dsimp only [putL, setL, evL, getL]
    refine HK_readP 8 (v := .pointer (some ⟨bp0, 0 + 0, none⟩)) rfl (by kernel_rfl) (fun c l s h => hQp c l s h) rfl (fun s' K hK => ?_) rfl rfl (fun _ => hR) ?_
    · refine o_faddr' (ft := 3) (off := 0) rfl Try.underlying37 rfl tI3 (by decide) ?_
      exact hK
    try dsimp only [putL, setL, evL, getL]
    refine HK_read 9 (v := .int .i64 p0_0) rfl (by kernel_rfl) (fun c l s h => hQp c l s h) rfl (fun s' hR' K hK => ?_) rfl rfl hR ?_
    · refine o_load' rfl Try.underlying3 rfl (has_gro hR' (hH0.hasv 2 rfl rfl)) ?_
      exact hK
    try dsimp only [putL, setL, evL, getL]
    refine HK_readP 10 (v := .int .i64 (IntKind.i64.wrap ((x26.length : Int) - p0_0))) rfl (by kernel_rfl) (fun c l s h => hQp c l s h) rfl (fun s' K hK => ?_) rfl rfl (fun _ => hR) ?_
    · refine o_bin rfl rfl rfl ?_
      exact hK
    try dsimp only [putL, setL, evL, getL]
    refine HK_readP 11 (v := .int .i64 (max 0 (IntKind.i64.wrap ((x26.length : Int) - p0_0)))) rfl (by kernel_rfl) (fun c l s h => hQp c l s h) rfl (fun s' K hK => ?_) rfl rfl (fun _ => hR) ?_
    · refine o_max2 rfl rfl ?_
      exact hK
    try dsimp only [putL, setL, evL, getL]
    refine HK_more [12] (by kernel_rfl) rfl (fun _ => hR) ⟨⟨_, rfl, Or.inl ⟨rfl, ?_⟩⟩, trivial⟩
    replace H := headE H
    obtain ⟨u53, hu53, H⟩ := H
    obtain ⟨F1, sx, hx, hC, hA, hB⟩ := hH.takeT [2] (by decide)
    dsimp only [addC, setC, rmC, selC, getC] at hA
    skip
    refine o_call (args := #[.pointer (some ⟨bp0, 0, none⟩), .int .i64 (max 0 (IntKind.i64.wrap ((x26.length : Int) - p0_0)))]) Try.func123 rfl rfl rfl (impl_Buf_take.ok sx s51 F1 bp0 p0_0 A26 c26 x26 A27 c27 x27 p0_3 (max 0 (IntKind.i64.wrap ((x26.length : Int) - p0_0))) (Ck.rdT hx (hC 0 (by decide)) rfl) (Ck.rdT hx (hC 1 (by decide)) rfl) hA _ hu53) ?_
    rintro _ s53 ⟨A54, c54, A55, c55, A56, c56, rfl, hD⟩
    replace hH := hB _ _ _ inferInstance hD
    clear hD hA hB hx hC
    dsimp only [addC, setC, rmC, selC, getC] at hH
    try dsimp only [putL, setL, evL, getL]
    refine HK_free (by kernel_rfl) ?_
    refine HX_lim (R := fun _ => True) (k := 0) (fun s' => Gro s53 s') 15 ?_
    have hR := Gro.refl s53
    have hH0 := hH
    refine HK_more [13] (by kernel_rfl) rfl (fun _ => hR) ⟨⟨_, rfl, Or.inl ⟨rfl, ?_⟩⟩, trivial⟩
    skip
    refine o_assign ?_
    try dsimp only [putL, setL, evL, getL]
    refine HK_done (fun _ => hR) (by kernel_rfl) ?_
    refine hK52 _ _ ?_
    refine HT_seq_k ?_
    intro K57 hK57
    refine HT_region ?_
    refine HL_cons rfl ?_
    refine o_move ?_
    try dsimp only [putL, setL, evL, getL]
    refine HL_cons rfl ?_
    refine o_move ?_
    try dsimp only [putL, setL, evL, getL]
    refine HL_cons rfl ?_
    refine o_nilck rfl ?_
    try dsimp only [putL, setL, evL, getL]
    refine HL_cons rfl ?_
    refine o_loads' [.int .i64 p0_0, .slice A55 u53.2.1.length c55, .slice A56 u53.2.2.1.length c56, .int .i64 u53.2.2.2] rfl Try.underlying37 rfl tI37 rfl (hH.partv 6 rfl (0) [.int .i64 p0_0, .slice A55 u53.2.1.length c55, .slice A56 u53.2.2.1.length c56, .int .i64 u53.2.2.2] rfl) ?_
    try dsimp only [putL, setL, evL, getL]
    replace H := headE H
    obtain ⟨u58, hu58, H⟩ := H
    refine HL_cons rfl ?_
    refine o_call (args := #[.agg #[.int .i64 p0_0, .slice A55 u53.2.1.length c55, .slice A56 u53.2.2.1.length c56, .int .i64 u53.2.2.2]]) Try.func28 rfl rfl rfl (impl_GoodBuf.ok s53 s53 no p0_0 A55 c55 u53.2.1 A56 c56 u53.2.2.1 u53.2.2.2 (hH.rd 4 rfl) (hH.rd 5 rfl) (Hp.own (Bs.refl s53)) _ hu58) ?_
    rintro _ s58 ⟨rfl, hD⟩
    replace hH := hH.back0T hD
    clear hD
    dsimp only [addC, setC, rmC, selC, getC] at hH
    try dsimp only [putL, setL, evL, getL]
    refine HL_cons rfl ?_
    refine o_assign ?_
    try dsimp only [putL, setL, evL, getL]
    refine HL_cons rfl ?_
    refine o_assign ?_
    try dsimp only [putL, setL, evL, getL]
    refine HL_nil ?_
    refine hK57 _ _ ?_
    refine HT_ret ?_
    exact hQr _ _ [.slice A54 u53.1.length c54, .bool u58] ⟨rfl, rfl, trivial⟩ (retH (fun r => impl_Buf_put.post sb s F0 bp0 p0_0 r _ _) (show some _ = some r from H) ⟨A54, c54, A55, c55, A56, c56, rfl, hH.sel [3, 4, 5, 6] (by decide)⟩)
def impl_PutBuf.f (p0_0 : Int) (p0_1 : List (Int)) (p0_2 : List (Int)) (p0_3 : Int) (p1 : List (Int)) (p2 : List (Int)) : Option (Int × (List (Int)) × (List (Int)) × Int × (List (Int)) × Bool) := ((impl_GoodBuf.f p0_0 p0_1 p0_2 p0_3).bind fun u29 => if (!u29) = true then (some true) else (if ((p1.length : Int) != (p2.length : Int)) = true then (some true) else (if (decide ((p1.length : Int) > 1000)) = true then (some true) else ((slices_ContainsFunc_int_int_impl_PutBuf_1.f p2).bind fun u33 => some u33)))).bind fun (o : Bool) => match o with | x28 => (if x28 = true then (some (0, [], [], 0, [], false)) else ((impl_Buf_clone.f p0_0 p0_1 p0_2 p0_3).bind fun u39 => (impl_Buf_put.f u39.1 u39.2.1 u39.2.2.1 u39.2.2.2 p1 p2).bind fun u45 => (if (!u45.2.1) = true then (some true) else ((impl_areRunes.f p1 1000).bind fun u66 => some (!u66))).bind fun (o : Bool) => match o with | x64 => (if x64 = true then (some (0, [], [], 0, [], false)) else (some (u39.1, u45.2.2.1, u45.2.2.2.1, u45.2.2.2.2, u45.1, true)))))
def impl_PutBuf.post (sb s : St) (F0 : Fp) (r : Int × (List (Int)) × (List (Int)) × Int × (List (Int)) × Bool) : Value → St → Prop := fun v s' => ∃ (A1 : Option Addr) (c1 : Nat) (A2 : Option Addr) (c2 : Nat) (A4 : Option Addr) (c4 : Nat), v = .tuple #[.agg #[.int .i64 r.1, .slice A1 r.2.1.length c1, .slice A2 r.2.2.1.length c2, .int .i64 r.2.2.2.1], .slice A4 r.2.2.2.2.1.length c4, .bool r.2.2.2.2.2] ∧ Hp sb s F0 s' [Ck.ol OI 3 A1 c1 r.2.1, Ck.ol OI 3 A2 c2 r.2.2.1, Ck.ol OI 3 A4 c4 r.2.2.2.2.1]
set_option maxRecDepth 100000 in
set_option maxHeartbeats 4000000 in
theorem impl_PutBuf.ok (sb s : St) (F0 : Fp) (p0_0 : Int) (A0_1p : Option Addr) (c0_1p : Nat) (p0_1 : List (Int)) (A0_2p : Option Addr) (c0_2p : Nat) (p0_2 : List (Int)) (p0_3 : Int) (A1p : Option Addr) (c1p : Nat) (p1 : List (Int)) (A2p : Option Addr) (c2p : Nat) (p2 : List (Int)) (HRp0_1 : Rd KI sb A0_1p c0_1p p0_1) (HRp0_2 : Rd KI sb A0_2p c0_2p p0_2) (HRp1 : Rd KI sb A1p c1p p1) (HRp2 : Rd KI sb A2p c2p p2) (hH : Hp sb s F0 s []) (r : Int × (List (Int)) × (List (Int)) × Int × (List (Int)) × Bool) (H : impl_PutBuf.f p0_0 p0_1 p0_2 p0_3 p1 p2 = some r) : GCall Try.prog 25 #[.agg #[.int .i64 p0_0, .slice A0_1p p0_1.length c0_1p, .slice A0_2p p0_2.length c0_2p, .int .i64 p0_3], .slice A1p p1.length c1p, .slice A2p p2.length c2p] s (impl_PutBuf.post sb s F0 r) := by
  refine GCall_ofk [.cell 6 37, .tmp 7, .tmp 8] [.agg #[.int .i64 p0_0, .slice A0_1p p0_1.length c0_1p, .slice A0_2p p0_2.length c0_2p, .int .i64 p0_3], .slice A1p p1.length c1p, .slice A2p p2.length c2p, undef, undef, undef, undef, undef, undef, undef, undef, undef, undef, undef, undef, undef, undef, undef, undef, undef, undef, undef, undef, undef, undef, undef, undef, undef, undef, undef, undef, undef, undef, undef, undef, undef, undef, undef, undef, undef, undef, undef, undef, undef, undef, undef, undef, undef, undef, undef] Try.func25 rfl rfl rfl ?_
  intro w Q hQr hQn hQp
  replace H := topE H
  unfold impl_PutBuf.f at H
  refine HT_seq_k ?_
  intro K1 hK1
  refine HT_region ?_
  refine HL_cons rfl ?_
  refine o_boxH hH rfl ?_
  intro b2 s2 hH' hG
  replace hH : Hp sb s F0 s2 [Ck.ov b2 [.int .i64 p0_0, .slice A0_1p p0_1.length c0_1p, .slice A0_2p p0_2.length c0_2p, .int .i64 p0_3] 37] := hH'
  clear hH' hG
  try dsimp only [putL, setL, evL, getL]
  refine HL_cons rfl ?_
  refine o_allocH hH tI37 ?_
  intro b3 s3 hH' hG
  replace hH : Hp sb s F0 s3 [Ck.ov b2 [.int .i64 p0_0, .slice A0_1p p0_1.length c0_1p, .slice A0_2p p0_2.length c0_2p, .int .i64 p0_3] 37, Ck.ov b3 [.int .i64 0, .slice none 0 0, .slice none 0 0, .int .i64 0] 37] := hH'
  clear hH' hG
  try dsimp only [putL, setL, evL, getL]
  refine HL_cons rfl ?_
  refine o_assign ?_
  try dsimp only [putL, setL, evL, getL]
  refine HL_cons rfl ?_
  refine o_assign ?_
  try dsimp only [putL, setL, evL, getL]
  refine HL_nil ?_
  refine hK1 _ _ ?_
  refine HT_seq_k ?_
  intro K21 hK21
  refine joinH H fun G22 hG22 H => ?_
  refine HT_joinK (fun l' s' => ∃ (x28 : Bool), G22 x28 = some r ∧ l' = [.agg #[.int .i64 p0_0, .slice A0_1p p0_1.length c0_1p, .slice A0_2p p0_2.length c0_2p, .int .i64 p0_3], .slice A1p p1.length c1p, .slice A2p p2.length c2p, .pointer (some ⟨b2, 0, none⟩), undef, undef, .pointer (some ⟨b3, 0, none⟩), .slice none 0 0, .bool false, undef, undef, undef, getL l' 12, getL l' 13, getL l' 14, getL l' 15, getL l' 16, getL l' 17, getL l' 18, getL l' 19, getL l' 20, getL l' 21, getL l' 22, getL l' 23, getL l' 24, getL l' 25, getL l' 26, getL l' 27, getL l' 28, getL l' 29, .bool x28, undef, undef, undef, undef, undef, undef, undef, undef, undef, undef, undef, undef, undef, undef, undef, undef, undef, undef, undef] ∧ Hp sb s F0 s' [Ck.ov b2 [.int .i64 p0_0, .slice A0_1p p0_1.length c0_1p, .slice A0_2p p0_2.length c0_2p, .int .i64 p0_3] 37, Ck.ov b3 [.int .i64 0, .slice none 0 0, .slice none 0 0, .int .i64 0] 37]) ?_ ?_
  · intro K22 hK22
    refine HT_region ?_
    refine HL_cons rfl ?_
    refine o_loads' [.int .i64 p0_0, .slice A0_1p p0_1.length c0_1p, .slice A0_2p p0_2.length c0_2p, .int .i64 p0_3] rfl Try.underlying37 rfl tI37 rfl (hH.partv 0 rfl (0) [.int .i64 p0_0, .slice A0_1p p0_1.length c0_1p, .slice A0_2p p0_2.length c0_2p, .int .i64 p0_3] rfl) ?_
    try dsimp only [putL, setL, evL, getL]
    replace H := headE H
    obtain ⟨u29, hu29, H⟩ := H
    refine HL_cons rfl ?_
    refine o_call (args := #[.agg #[.int .i64 p0_0, .slice A0_1p p0_1.length c0_1p, .slice A0_2p p0_2.length c0_2p, .int .i64 p0_3]]) Try.func28 rfl rfl rfl (impl_GoodBuf.ok sb s3 no p0_0 A0_1p c0_1p p0_1 A0_2p c0_2p p0_2 p0_3 HRp0_1 HRp0_2 (Hp.own hH.bs) _ hu29) ?_
    rintro _ s29 ⟨rfl, hD⟩
    replace hH := hH.back0 hD (Up.refl _ _ _)
    clear hD
    dsimp only [addC, setC, rmC, selC, getC] at hH
    try dsimp only [putL, setL, evL, getL]
    refine HL_cons rfl ?_
    refine o_not rfl ?_
    try dsimp only [putL, setL, evL, getL]
    refine HL_cons rfl ?_
    refine o_move ?_
    try dsimp only [putL, setL, evL, getL]
    rcases Bool.eq_false_or_eq_true (!u29) with hb30 | hb30
    · replace H := iteT hb30 H
      refine HL_skip ?_ ?_
      · exact wantF (j := 3) (b := false) (t := 15) (c := !u29) rfl rfl rfl rfl hb30
      try dsimp only [putL, setL, evL, getL]
      refine HL_skip ?_ ?_
      · exact wantF (j := 3) (b := false) (t := 15) (c := !u29) rfl rfl rfl rfl hb30
      try dsimp only [putL, setL, evL, getL]
      refine HL_skip ?_ ?_
      · exact wantF (j := 3) (b := false) (t := 15) (c := !u29) rfl rfl rfl rfl hb30
      try dsimp only [putL, setL, evL, getL]
      refine HL_skip ?_ ?_
      · exact wantF (j := 3) (b := false) (t := 15) (c := !u29) rfl rfl rfl rfl hb30
      try dsimp only [putL, setL, evL, getL]
      refine HL_skip ?_ ?_
      · exact wantF (j := 3) (b := false) (t := 15) (c := !u29) rfl rfl rfl rfl hb30
      try dsimp only [putL, setL, evL, getL]
      refine HL_cons rfl ?_
      refine o_pickT rfl hb30 ?_
      try dsimp only [putL, setL, evL, getL]
      refine HL_cons rfl ?_
      refine o_move ?_
      try dsimp only [putL, setL, evL, getL]
      refine HL_skip ?_ ?_
      · exact wantF (j := 10) (b := false) (t := 22) (c := true) rfl rfl rfl rfl rfl
      try dsimp only [putL, setL, evL, getL]
      refine HL_skip ?_ ?_
      · exact wantF (j := 10) (b := false) (t := 22) (c := true) rfl rfl rfl rfl rfl
      try dsimp only [putL, setL, evL, getL]
      refine HL_skip ?_ ?_
      · exact wantF (j := 10) (b := false) (t := 22) (c := true) rfl rfl rfl rfl rfl
      try dsimp only [putL, setL, evL, getL]
      refine HL_cons rfl ?_
      refine o_pickT rfl rfl ?_
      try dsimp only [putL, setL, evL, getL]
      refine HL_cons rfl ?_
      refine o_move ?_
      try dsimp only [putL, setL, evL, getL]
      refine HL_skip ?_ ?_
      · exact wantF (j := 15) (b := false) (t := 27) (c := true) rfl rfl rfl rfl rfl
      try dsimp only [putL, setL, evL, getL]
      refine HL_skip ?_ ?_
      · exact wantF (j := 15) (b := false) (t := 27) (c := true) rfl rfl rfl rfl rfl
      try dsimp only [putL, setL, evL, getL]
      refine HL_cons rfl ?_
      refine o_pickT rfl rfl ?_
      try dsimp only [putL, setL, evL, getL]
      refine HL_nil ?_
      exact hK22 _ _ ⟨true, H, rfl, hH⟩
    · replace H := iteF hb30 H
      refine HL_want ?_ ?_
      · exact wantT (j := 3) (b := false) (t := 15) (c := !u29) rfl rfl rfl rfl hb30
      refine o_move ?_
      try dsimp only [putL, setL, evL, getL]
      refine HL_want ?_ ?_
      · exact wantT (j := 3) (b := false) (t := 15) (c := !u29) rfl rfl rfl rfl hb30
      refine o_len rfl Try.underlying24 ?_
      try dsimp only [putL, setL, evL, getL]
      refine HL_want ?_ ?_
      · exact wantT (j := 3) (b := false) (t := 15) (c := !u29) rfl rfl rfl rfl hb30
      refine o_move ?_
      try dsimp only [putL, setL, evL, getL]
      refine HL_want ?_ ?_
      · exact wantT (j := 3) (b := false) (t := 15) (c := !u29) rfl rfl rfl rfl hb30
      refine o_len rfl Try.underlying24 ?_
      try dsimp only [putL, setL, evL, getL]
      refine HL_want ?_ ?_
      · exact wantT (j := 3) (b := false) (t := 15) (c := !u29) rfl rfl rfl rfl hb30
      refine o_bin rfl rfl rfl ?_
      try dsimp only [putL, setL, evL, getL]
      refine HL_cons rfl ?_
      refine o_pickF rfl hb30 ?_
      try dsimp only [putL, setL, evL, getL]
      refine HL_cons rfl ?_
      refine o_move ?_
      try dsimp only [putL, setL, evL, getL]
      rcases Bool.eq_false_or_eq_true ((p1.length : Int) != (p2.length : Int)) with hb31 | hb31
      · replace H := iteT hb31 H
        refine HL_skip ?_ ?_
        · exact wantF (j := 10) (b := false) (t := 22) (c := (p1.length : Int) != (p2.length : Int)) rfl rfl rfl rfl hb31
        try dsimp only [putL, setL, evL, getL]
        refine HL_skip ?_ ?_
        · exact wantF (j := 10) (b := false) (t := 22) (c := (p1.length : Int) != (p2.length : Int)) rfl rfl rfl rfl hb31
        try dsimp only [putL, setL, evL, getL]
        refine HL_skip ?_ ?_
        · exact wantF (j := 10) (b := false) (t := 22) (c := (p1.length : Int) != (p2.length : Int)) rfl rfl rfl rfl hb31
        try dsimp only [putL, setL, evL, getL]
        refine HL_cons rfl ?_
        refine o_pickT rfl hb31 ?_
        try dsimp only [putL, setL, evL, getL]
        refine HL_cons rfl ?_
        refine o_move ?_
        try dsimp only [putL, setL, evL, getL]
        refine HL_skip ?_ ?_
        · exact wantF (j := 15) (b := false) (t := 27) (c := true) rfl rfl rfl rfl rfl
        try dsimp only [putL, setL, evL, getL]
        refine HL_skip ?_ ?_
        · exact wantF (j := 15) (b := false) (t := 27) (c := true) rfl rfl rfl rfl rfl
        try dsimp only [putL, setL, evL, getL]
        refine HL_cons rfl ?_
        refine o_pickT rfl rfl ?_
        try dsimp only [putL, setL, evL, getL]
        refine HL_nil ?_
        exact hK22 _ _ ⟨true, H, rfl, hH⟩
      · replace H := iteF hb31 H
        refine HL_want ?_ ?_
        · exact wantT (j := 10) (b := false) (t := 22) (c := (p1.length : Int) != (p2.length : Int)) rfl rfl rfl rfl hb31
        refine o_move ?_
        try dsimp only [putL, setL, evL, getL]
        refine HL_want ?_ ?_
        · exact wantT (j := 10) (b := false) (t := 22) (c := (p1.length : Int) != (p2.length : Int)) rfl rfl rfl rfl hb31
        refine o_len rfl Try.underlying24 ?_
        try dsimp only [putL, setL, evL, getL]
        refine HL_want ?_ ?_
        · exact wantT (j := 10) (b := false) (t := 22) (c := (p1.length : Int) != (p2.length : Int)) rfl rfl rfl rfl hb31
        refine o_bin rfl rfl rfl ?_
        try dsimp only [putL, setL, evL, getL]
        refine HL_cons rfl ?_
        refine o_pickF rfl hb31 ?_
        try dsimp only [putL, setL, evL, getL]
        refine HL_cons rfl ?_
        refine o_move ?_
        try dsimp only [putL, setL, evL, getL]
        rcases Bool.eq_false_or_eq_true (decide ((p1.length : Int) > 1000)) with hb32 | hb32
        · replace H := iteT hb32 H
          refine HL_skip ?_ ?_
          · exact wantF (j := 15) (b := false) (t := 27) (c := decide ((p1.length : Int) > 1000)) rfl rfl rfl rfl hb32
          try dsimp only [putL, setL, evL, getL]
          refine HL_skip ?_ ?_
          · exact wantF (j := 15) (b := false) (t := 27) (c := decide ((p1.length : Int) > 1000)) rfl rfl rfl rfl hb32
          try dsimp only [putL, setL, evL, getL]
          refine HL_cons rfl ?_
          refine o_pickT rfl hb32 ?_
          try dsimp only [putL, setL, evL, getL]
          refine HL_nil ?_
          exact hK22 _ _ ⟨true, H, rfl, hH⟩
        · replace H := iteF hb32 H
          refine HL_want ?_ ?_
          · exact wantT (j := 15) (b := false) (t := 27) (c := decide ((p1.length : Int) > 1000)) rfl rfl rfl rfl hb32
          refine o_move ?_
          try dsimp only [putL, setL, evL, getL]
          replace H := headE H
          obtain ⟨u33, hu33, H⟩ := H
          refine HL_want ?_ ?_
          · exact wantT (j := 15) (b := false) (t := 27) (c := decide ((p1.length : Int) > 1000)) rfl rfl rfl rfl hb32
          refine o_call (args := #[.slice A2p p2.length c2p, .func (.func 115) #[] #[]]) Try.func114 rfl rfl rfl (slices_ContainsFunc_int_int_impl_PutBuf_1.ok sb s29 no A2p c2p p2 HRp2 (Hp.own hH.bs) _ hu33) ?_
          rintro _ s33 ⟨rfl, hD⟩
          replace hH := hH.back0 hD (Up.refl _ _ _)
          clear hD
          dsimp only [addC, setC, rmC, selC, getC] at hH
          try dsimp only [putL, setL, evL, getL]
          refine HL_cons rfl ?_
          refine o_pickF rfl hb32 ?_
          try dsimp only [putL, setL, evL, getL]
          refine HL_nil ?_
          exact hK22 _ _ ⟨u33, H, rfl, hH⟩
  · rintro l' s34 ⟨x28, H, hl, hH⟩
    generalize getL l' 12 = j12, getL l' 13 = j13, getL l' 14 = j14, getL l' 15 = j15, getL l' 16 = j16, getL l' 17 = j17, getL l' 18 = j18, getL l' 19 = j19, getL l' 20 = j20, getL l' 21 = j21, getL l' 22 = j22, getL l' 23 = j23, getL l' 24 = j24, getL l' 25 = j25, getL l' 26 = j26, getL l' 27 = j27, getL l' 28 = j28, getL l' 29 = j29 at hl
    subst hl
    replace H := hG22 _ H
    try dsimp only at H
    rcases Bool.eq_false_or_eq_true x28 with hb35 | hb35
    · replace H := iteT hb35 H
      refine HT_true (congrArg Value.bool hb35) ?_
      refine HT_seq_k ?_
      intro K36 hK36
      refine HT_region ?_
      refine HL_cons rfl ?_
      refine o_build (pl := [(0, 1), (1, 1), (2, 1), (3, 1)]) (cs := #[.int .i64 0, .slice none 0 0, .slice none 0 0, .int .i64 0]) Try.underlying37 tI37 (by kernel_rfl) (by kernel_rfl) rfl ?_
      try dsimp only [putL, setL, evL, getL]
      refine HL_cons rfl ?_
      refine o_stvH (vs := [.int .i64 0, .slice none 0 0, .slice none 0 0, .int .i64 0]) (us' := [.int .i64 0, .slice none 0 0, .slice none 0 0, .int .i64 0]) hH 1 rfl rfl rfl rfl rfl tI37 rfl (List.cons_ne_nil _ _) rfl rfl rfl ?_
      intro s37 hH'
      replace hH : Hp sb s F0 s37 [Ck.ov b2 [.int .i64 p0_0, .slice A0_1p p0_1.length c0_1p, .slice A0_2p p0_2.length c0_2p, .int .i64 p0_3] 37, Ck.ov b3 [.int .i64 0, .slice none 0 0, .slice none 0 0, .int .i64 0] 37] := hH'
      clear hH'
      try dsimp only [putL, setL, evL, getL]
      refine HL_cons rfl ?_
      refine o_assign ?_
      try dsimp only [putL, setL, evL, getL]
      refine HL_cons rfl ?_
      refine o_assign ?_
      try dsimp only [putL, setL, evL, getL]
      refine HL_nil ?_
      refine hK36 _ _ ?_
      refine HT_ret ?_
      exact hQr _ _ [.agg #[.int .i64 0, .slice none 0 0, .slice none 0 0, .int .i64 0], .slice none 0 0, .bool false] ⟨ResV.cells rfl Try.underlying37 rfl tI37 (hH.var 1 rfl) rfl, rfl, rfl, trivial⟩ (retH (fun r => impl_PutBuf.post sb s F0 r _ _) (show some _ = some r from H) ⟨none, 0, none, 0, none, 0, rfl, (((hH.nil (K := KI) OI 3).nil (K := KI) OI 3).nil (K := KI) OI 3).sel [2, 3, 4] (by decide)⟩)
    · replace H := iteF hb35 H
      refine HT_false (congrArg Value.bool hb35) ?_
      refine HT_skip ?_
      refine hK21 _ _ ?_
      refine HT_seq_k ?_
      intro K38 hK38
      refine HT_region ?_
      refine HL_cons rfl ?_
      refine o_loads' [.int .i64 p0_0, .slice A0_1p p0_1.length c0_1p, .slice A0_2p p0_2.length c0_2p, .int .i64 p0_3] rfl Try.underlying37 rfl tI37 rfl (hH.partv 0 rfl (0) [.int .i64 p0_0, .slice A0_1p p0_1.length c0_1p, .slice A0_2p p0_2.length c0_2p, .int .i64 p0_3] rfl) ?_
      try dsimp only [putL, setL, evL, getL]
      replace H := headE H
      obtain ⟨u39, hu39, H⟩ := H
      refine HL_cons rfl ?_
      refine o_call (args := #[.agg #[.int .i64 p0_0, .slice A0_1p p0_1.length c0_1p, .slice A0_2p p0_2.length c0_2p, .int .i64 p0_3]]) Try.func116 rfl rfl rfl (impl_Buf_clone.ok sb s34 no p0_0 A0_1p c0_1p p0_1 A0_2p c0_2p p0_2 p0_3 HRp0_1 HRp0_2 (Hp.own hH.bs) _ hu39) ?_
      rintro _ s39 ⟨A40, c40, A41, c41, rfl, hD⟩
      replace hH := hH.back0 hD (Up.refl _ _ _)
      clear hD
      dsimp only [addC, setC, rmC, selC, getC] at hH
      try dsimp only [putL, setL, evL, getL]
      refine HL_cons rfl ?_
      refine o_allocH hH tI37 ?_
      intro b42 s42 hH' hG
      replace hH : Hp sb s F0 s42 [Ck.ov b2 [.int .i64 p0_0, .slice A0_1p p0_1.length c0_1p, .slice A0_2p p0_2.length c0_2p, .int .i64 p0_3] 37, Ck.ov b3 [.int .i64 0, .slice none 0 0, .slice none 0 0, .int .i64 0] 37, Ck.ol OI 3 A40 c40 u39.2.1, Ck.ol OI 3 A41 c41 u39.2.2.1, Ck.ov b42 [.int .i64 0, .slice none 0 0, .slice none 0 0, .int .i64 0] 37] := hH'
      clear hH' hG
      try dsimp only [putL, setL, evL, getL]
      refine HL_cons rfl ?_
      refine o_stvH (vs := [.int .i64 u39.1, .slice A40 u39.2.1.length c40, .slice A41 u39.2.2.1.length c41, .int .i64 u39.2.2.2]) (us' := [.int .i64 u39.1, .slice A40 u39.2.1.length c40, .slice A41 u39.2.2.1.length c41, .int .i64 u39.2.2.2]) hH 4 rfl rfl rfl rfl rfl tI37 rfl (List.cons_ne_nil _ _) rfl rfl rfl ?_
      intro s43 hH'
      replace hH : Hp sb s F0 s43 [Ck.ov b2 [.int .i64 p0_0, .slice A0_1p p0_1.length c0_1p, .slice A0_2p p0_2.length c0_2p, .int .i64 p0_3] 37, Ck.ov b3 [.int .i64 0, .slice none 0 0, .slice none 0 0, .int .i64 0] 37, Ck.ol OI 3 A40 c40 u39.2.1, Ck.ol OI 3 A41 c41 u39.2.2.1, Ck.ov b42 [.int .i64 u39.1, .slice A40 u39.2.1.length c40, .slice A41 u39.2.2.1.length c41, .int .i64 u39.2.2.2] 37] := hH'
      clear hH'
      try dsimp only [putL, setL, evL, getL]
      refine HL_nil ?_
      refine hK38 _ _ ?_
      refine HT_seq_k ?_
      intro K44 hK44
      refine HT_region ?_
      refine HL_cons rfl ?_
      refine o_move ?_
      try dsimp only [putL, setL, evL, getL]
      refine HL_cons rfl ?_
      refine o_move ?_
      try dsimp only [putL, setL, evL, getL]
      replace H := headE H
      obtain ⟨u45, hu45, H⟩ := H
      obtain ⟨F1, sx, hx, hC, hA, hB⟩ := hH.takeT [4] (by decide)
      dsimp only [addC, setC, rmC, selC, getC] at hA
      refine HL_cons rfl ?_
      refine o_call (args := #[.pointer (some ⟨b42, 0, none⟩), .slice A1p p1.length c1p, .slice A2p p2.length c2p]) Try.func117 rfl rfl rfl (impl_Buf_put.ok sx s43 F1 b42 u39.1 A40 c40 u39.2.1 A41 c41 u39.2.2.1 u39.2.2.2 A1p c1p p1 A2p c2p p2 (Ck.rdT hx (hC 2 (by decide)) rfl) (Ck.rdT hx (hC 3 (by decide)) rfl) (HRp1.mono hx.mono) (HRp2.mono hx.mono) hA _ hu45) ?_
      rintro _ s45 ⟨A46, c46, A47, c47, A48, c48, rfl, hD⟩
      replace hH := hB _ _ _ inferInstance hD
      clear hD hA hB hx hC
      dsimp only [addC, setC, rmC, selC, getC] at hH
      try dsimp only [putL, setL, evL, getL]
      refine HL_cons rfl ?_
      refine o_move ?_
      try dsimp only [putL, setL, evL, getL]
      refine HL_cons rfl ?_
      refine o_extract rfl rfl ?_
      try dsimp only [putL, setL, evL, getL]
      refine HL_cons rfl ?_
      refine o_extract rfl rfl ?_
      try dsimp only [putL, setL, evL, getL]
      refine HL_cons rfl ?_
      refine o_assign ?_
      try dsimp only [putL, setL, evL, getL]
      refine HL_cons rfl ?_
      refine o_assign ?_
      try dsimp only [putL, setL, evL, getL]
      refine HL_nil ?_
      refine hK44 _ _ ?_
      refine HT_seq_k ?_
      intro K60 hK60
      refine joinH H fun G61 hG61 H => ?_
      refine HT_joinK (fun l' s' => ∃ (x64 : Bool), G61 x64 = some r ∧ l' = [.agg #[.int .i64 p0_0, .slice A0_1p p0_1.length c0_1p, .slice A0_2p p0_2.length c0_2p, .int .i64 p0_3], .slice A1p p1.length c1p, .slice A2p p2.length c2p, .pointer (some ⟨b2, 0, none⟩), undef, undef, .pointer (some ⟨b3, 0, none⟩), .slice none 0 0, .bool false, .pointer (some ⟨b42, 0, none⟩), .slice A46 u45.1.length c46, .bool u45.2.1, j12, j13, j14, j15, j16, j17, j18, j19, j20, j21, j22, j23, j24, j25, j26, j27, j28, j29, .bool x28, undef, .agg #[.int .i64 p0_0, .slice A0_1p p0_1.length c0_1p, .slice A0_2p p0_2.length c0_2p, .int .i64 p0_3], .agg #[.int .i64 u39.1, .slice A40 u39.2.1.length c40, .slice A41 u39.2.2.1.length c41, .int .i64 u39.2.2.2], .tuple #[.slice A46 u45.1.length c46, .bool u45.2.1], .slice A1p p1.length c1p, .slice A2p p2.length c2p, .tuple #[.slice A46 u45.1.length c46, .bool u45.2.1], .slice A46 u45.1.length c46, .bool u45.2.1, getL l' 40, getL l' 41, getL l' 42, getL l' 43, getL l' 44, getL l' 45, .bool x64, undef, undef, undef] ∧ Hp sb s F0 s' [Ck.ol OI 3 A46 c46 u45.1, Ck.ol OI 3 A47 c47 u45.2.2.1, Ck.ol OI 3 A48 c48 u45.2.2.2.1, Ck.ov b3 [.int .i64 0, .slice none 0 0, .slice none 0 0, .int .i64 0] 37, Ck.ov b42 [.int .i64 u39.1, .slice A47 u45.2.2.1.length c47, .slice A48 u45.2.2.2.1.length c48, .int .i64 u45.2.2.2.2] 37]) ?_ ?_
      · intro K61 hK61
        refine HT_region ?_
        refine HL_cons rfl ?_
        refine o_move ?_
        try dsimp only [putL, setL, evL, getL]
        refine HL_cons rfl ?_
        refine o_not rfl ?_
        try dsimp only [putL, setL, evL, getL]
        refine HL_cons rfl ?_
        refine o_move ?_
        try dsimp only [putL, setL, evL, getL]
        rcases Bool.eq_false_or_eq_true (!u45.2.1) with hb65 | hb65
        · replace H := iteT hb65 H
          refine HL_skip ?_ ?_
          · exact wantF (j := 2) (b := false) (t := 42) (c := !u45.2.1) rfl rfl rfl rfl hb65
          try dsimp only [putL, setL, evL, getL]
          refine HL_skip ?_ ?_
          · exact wantF (j := 2) (b := false) (t := 42) (c := !u45.2.1) rfl rfl rfl rfl hb65
          try dsimp only [putL, setL, evL, getL]
          refine HL_skip ?_ ?_
          · exact wantF (j := 2) (b := false) (t := 42) (c := !u45.2.1) rfl rfl rfl rfl hb65
          try dsimp only [putL, setL, evL, getL]
          refine HL_cons rfl ?_
          refine o_pickT rfl hb65 ?_
          try dsimp only [putL, setL, evL, getL]
          refine HL_nil ?_
          exact hK61 _ _ ⟨true, H, rfl, hH.sel [5, 6, 7, 1, 8] (by decide)⟩
        · replace H := iteF hb65 H
          refine HL_want ?_ ?_
          · exact wantT (j := 2) (b := false) (t := 42) (c := !u45.2.1) rfl rfl rfl rfl hb65
          refine o_move ?_
          try dsimp only [putL, setL, evL, getL]
          replace H := headE H
          obtain ⟨u66, hu66, H⟩ := H
          refine HL_want ?_ ?_
          · exact wantT (j := 2) (b := false) (t := 42) (c := !u45.2.1) rfl rfl rfl rfl hb65
          refine o_call (args := #[.slice A1p p1.length c1p, .int .i64 1000]) Try.func118 rfl rfl rfl (impl_areRunes.ok sb s45 no A1p c1p p1 1000 HRp1 (Hp.own hH.bs) _ hu66) ?_
          rintro _ s66 ⟨rfl, hD⟩
          replace hH := hH.back0 hD (Up.refl _ _ _)
          clear hD
          dsimp only [addC, setC, rmC, selC, getC] at hH
          try dsimp only [putL, setL, evL, getL]
          refine HL_want ?_ ?_
          · exact wantT (j := 2) (b := false) (t := 42) (c := !u45.2.1) rfl rfl rfl rfl hb65
          refine o_not rfl ?_
          try dsimp only [putL, setL, evL, getL]
          refine HL_cons rfl ?_
          refine o_pickF rfl hb65 ?_
          try dsimp only [putL, setL, evL, getL]
          refine HL_nil ?_
          exact hK61 _ _ ⟨!u66, H, rfl, hH.sel [5, 6, 7, 1, 8] (by decide)⟩
      · rintro l' s67 ⟨x64, H, hl, hH⟩
        generalize getL l' 40 = j40, getL l' 41 = j41, getL l' 42 = j42, getL l' 43 = j43, getL l' 44 = j44, getL l' 45 = j45 at hl
        subst hl
        replace H := hG61 _ H
        try dsimp only at H
        rcases Bool.eq_false_or_eq_true x64 with hb68 | hb68
        · replace H := iteT hb68 H
          refine HT_true (congrArg Value.bool hb68) ?_
          refine HT_seq_k ?_
          intro K69 hK69
          refine HT_region ?_
          refine HL_cons rfl ?_
          refine o_build (pl := [(0, 1), (1, 1), (2, 1), (3, 1)]) (cs := #[.int .i64 0, .slice none 0 0, .slice none 0 0, .int .i64 0]) Try.underlying37 tI37 (by kernel_rfl) (by kernel_rfl) rfl ?_
          try dsimp only [putL, setL, evL, getL]
          refine HL_cons rfl ?_
          refine o_stvH (vs := [.int .i64 0, .slice none 0 0, .slice none 0 0, .int .i64 0]) (us' := [.int .i64 0, .slice none 0 0, .slice none 0 0, .int .i64 0]) hH 3 rfl rfl rfl rfl rfl tI37 rfl (List.cons_ne_nil _ _) rfl rfl rfl ?_
          intro s70 hH'
          replace hH : Hp sb s F0 s70 [Ck.ol OI 3 A46 c46 u45.1, Ck.ol OI 3 A47 c47 u45.2.2.1, Ck.ol OI 3 A48 c48 u45.2.2.2.1, Ck.ov b3 [.int .i64 0, .slice none 0 0, .slice none 0 0, .int .i64 0] 37, Ck.ov b42 [.int .i64 u39.1, .slice A47 u45.2.2.1.length c47, .slice A48 u45.2.2.2.1.length c48, .int .i64 u45.2.2.2.2] 37] := hH'
          clear hH'
          try dsimp only [putL, setL, evL, getL]
          refine HL_cons rfl ?_
          refine o_assign ?_
          try dsimp only [putL, setL, evL, getL]
          refine HL_cons rfl ?_
          refine o_assign ?_
          try dsimp only [putL, setL, evL, getL]
          refine HL_nil ?_
          refine hK69 _ _ ?_
          refine HT_ret ?_
          exact hQr _ _ [.agg #[.int .i64 0, .slice none 0 0, .slice none 0 0, .int .i64 0], .slice none 0 0, .bool false] ⟨ResV.cells rfl Try.underlying37 rfl tI37 (hH.var 3 rfl) rfl, rfl, rfl, trivial⟩ (retH (fun r => impl_PutBuf.post sb s F0 r _ _) (show some _ = some r from H) ⟨none, 0, none, 0, none, 0, rfl, (((hH.nil (K := KI) OI 3).nil (K := KI) OI 3).nil (K := KI) OI 3).sel [5, 6, 7] (by decide)⟩)
        · replace H := iteF hb68 H
          refine HT_false (congrArg Value.bool hb68) ?_
          refine HT_skip ?_
          refine hK60 _ _ ?_
          refine HT_seq_k ?_
          intro K71 hK71
          refine HT_region ?_
          refine HL_cons rfl ?_
          refine o_loads' [.int .i64 u39.1, .slice A47 u45.2.2.1.length c47, .slice A48 u45.2.2.2.1.length c48, .int .i64 u45.2.2.2.2] rfl Try.underlying37 rfl tI37 rfl (hH.partv 4 rfl (0) [.int .i64 u39.1, .slice A47 u45.2.2.1.length c47, .slice A48 u45.2.2.2.1.length c48, .int .i64 u45.2.2.2.2] rfl) ?_
          try dsimp only [putL, setL, evL, getL]
          refine HL_cons rfl ?_
          refine o_move ?_
          try dsimp only [putL, setL, evL, getL]
          refine HL_cons rfl ?_
          refine o_stvH (vs := [.int .i64 u39.1, .slice A47 u45.2.2.1.length c47, .slice A48 u45.2.2.2.1.length c48, .int .i64 u45.2.2.2.2]) (us' := [.int .i64 u39.1, .slice A47 u45.2.2.1.length c47, .slice A48 u45.2.2.2.1.length c48, .int .i64 u45.2.2.2.2]) hH 3 rfl rfl rfl rfl rfl tI37 rfl (List.cons_ne_nil _ _) rfl rfl rfl ?_
          intro s72 hH'
          replace hH : Hp sb s F0 s72 [Ck.ol OI 3 A46 c46 u45.1, Ck.ol OI 3 A47 c47 u45.2.2.1, Ck.ol OI 3 A48 c48 u45.2.2.2.1, Ck.ov b3 [.int .i64 u39.1, .slice A47 u45.2.2.1.length c47, .slice A48 u45.2.2.2.1.length c48, .int .i64 u45.2.2.2.2] 37, Ck.ov b42 [.int .i64 u39.1, .slice A47 u45.2.2.1.length c47, .slice A48 u45.2.2.2.1.length c48, .int .i64 u45.2.2.2.2] 37] := hH'
          clear hH'
          try dsimp only [putL, setL, evL, getL]
          refine HL_cons rfl ?_
          refine o_assign ?_
          try dsimp only [putL, setL, evL, getL]
          refine HL_cons rfl ?_
          refine o_assign ?_
          try dsimp only [putL, setL, evL, getL]
          refine HL_nil ?_
          refine hK71 _ _ ?_
          refine HT_ret ?_
          exact hQr _ _ [.agg #[.int .i64 u39.1, .slice A47 u45.2.2.1.length c47, .slice A48 u45.2.2.2.1.length c48, .int .i64 u45.2.2.2.2], .slice A46 u45.1.length c46, .bool true] ⟨ResV.cells rfl Try.underlying37 rfl tI37 (hH.var 3 rfl) rfl, rfl, rfl, trivial⟩ (retH (fun r => impl_PutBuf.post sb s F0 r _ _) (show some _ = some r from H) ⟨A47, c47, A48, c48, A46, c46, rfl, hH.sel [1, 2, 0] (by decide)⟩)
def spec_l1In.f (p0 : Int) (p1 : Int) (p2 : Int) : Option Bool := if (decide (p0 ≥ p1)) = true then (some (decide (p0 ≤ p2))) else (some false)
def spec_l1In.post (sb s : St) (F0 : Fp) (r : Bool) : Value → St → Prop := fun v s' => v = .bool r ∧ Hp sb s F0 s' []
set_option maxRecDepth 100000 in
set_option maxHeartbeats 4000000 in
theorem spec_l1In.ok (sb s : St) (F0 : Fp) (p0 : Int) (p1 : Int) (p2 : Int) (hH : Hp sb s F0 s []) (r : Bool) (H : spec_l1In.f p0 p1 p2 = some r) : GCall Try.prog 108 #[.int .i64 p0, .int .i64 p1, .int .i64 p2] s (spec_l1In.post sb s F0 r) := by
  refine GCall_ofk [.tmp 6] [.int .i64 p0, .int .i64 p1, .int .i64 p2, undef, undef, undef, undef, undef, undef, undef, undef, undef, undef, undef, undef] Try.func108 rfl rfl rfl ?_
  intro w Q hQr hQn hQp
  replace H := topE H
  unfold spec_l1In.f at H
  refine HT_seq_k ?_
  intro K1 hK1
  refine HT_region ?_
  refine HL_cons rfl ?_
  refine o_assign ?_
  try dsimp only [putL, setL, evL, getL]
  refine HL_nil ?_
  refine hK1 _ _ ?_
  refine HT_seq_k ?_
  intro K2 hK2
  refine HT_region ?_
  refine HL_cons rfl ?_
  refine o_move ?_
  try dsimp only [putL, setL, evL, getL]
  refine HL_cons rfl ?_
  refine o_move ?_
  try dsimp only [putL, setL, evL, getL]
  refine HL_cons rfl ?_
  refine o_bin rfl rfl rfl ?_
  try dsimp only [putL, setL, evL, getL]
  refine HL_cons rfl ?_
  refine o_move ?_
  try dsimp only [putL, setL, evL, getL]
  rcases Bool.eq_false_or_eq_true (decide (p0 ≥ p1)) with hb3 | hb3
  · replace H := iteT hb3 H
    refine HL_want ?_ ?_
    · exact wantT (j := 3) (b := true) (t := 10) (c := decide (p0 ≥ p1)) rfl rfl rfl rfl hb3
    refine o_move ?_
    try dsimp only [putL, setL, evL, getL]
    refine HL_want ?_ ?_
    · exact wantT (j := 3) (b := true) (t := 10) (c := decide (p0 ≥ p1)) rfl rfl rfl rfl hb3
    refine o_move ?_
    try dsimp only [putL, setL, evL, getL]
    refine HL_want ?_ ?_
    · exact wantT (j := 3) (b := true) (t := 10) (c := decide (p0 ≥ p1)) rfl rfl rfl rfl hb3
    refine o_bin rfl rfl rfl ?_
    try dsimp only [putL, setL, evL, getL]
    refine HL_cons rfl ?_
    refine o_pickT rfl hb3 ?_
    try dsimp only [putL, setL, evL, getL]
    refine HL_cons rfl ?_
    refine o_assign ?_
    try dsimp only [putL, setL, evL, getL]
    refine HL_nil ?_
    refine hK2 _ _ ?_
    refine HT_ret ?_
    exact hQr _ _ [.bool (decide (p0 ≤ p2))] ⟨rfl, trivial⟩ (retH (fun r => spec_l1In.post sb s F0 r _ _) (show some _ = some r from H) ⟨rfl, hH⟩)
  · replace H := iteF hb3 H
    refine HL_skip ?_ ?_
    · exact wantF (j := 3) (b := true) (t := 10) (c := decide (p0 ≥ p1)) rfl rfl rfl rfl hb3
    try dsimp only [putL, setL, evL, getL]
    refine HL_skip ?_ ?_
    · exact wantF (j := 3) (b := true) (t := 10) (c := decide (p0 ≥ p1)) rfl rfl rfl rfl hb3
    try dsimp only [putL, setL, evL, getL]
    refine HL_skip ?_ ?_
    · exact wantF (j := 3) (b := true) (t := 10) (c := decide (p0 ≥ p1)) rfl rfl rfl rfl hb3
    try dsimp only [putL, setL, evL, getL]
    refine HL_cons rfl ?_
    refine o_pickF rfl hb3 ?_
    try dsimp only [putL, setL, evL, getL]
    refine HL_cons rfl ?_
    refine o_assign ?_
    try dsimp only [putL, setL, evL, getL]
    refine HL_nil ?_
    refine hK2 _ _ ?_
    refine HT_ret ?_
    exact hQr _ _ [.bool false] ⟨rfl, trivial⟩ (retH (fun r => spec_l1In.post sb s F0 r _ _) (show some _ = some r from H) ⟨rfl, hH⟩)
def spec_GoodRune.f (p0 : Int) : Option Bool := (spec_l1In.f p0 0 1114111).bind fun u3 => if u3 = true then ((spec_l1In.f p0 55296 57343).bind fun u5 => some (!u5)) else (some false)
def spec_GoodRune.post (sb s : St) (F0 : Fp) (r : Bool) : Value → St → Prop := fun v s' => v = .bool r ∧ Hp sb s F0 s' []
set_option maxRecDepth 100000 in
set_option maxHeartbeats 4000000 in
theorem spec_GoodRune.ok (sb s : St) (F0 : Fp) (p0 : Int) (hH : Hp sb s F0 s []) (r : Bool) (H : spec_GoodRune.f p0 = some r) : GCall Try.prog 148 #[.int .i64 p0] s (spec_GoodRune.post sb s F0 r) := by
  refine GCall_ofk [.tmp 2] [.int .i64 p0, undef, undef, undef, undef, undef, undef, undef, undef, undef] Try.func148 rfl rfl rfl ?_
  intro w Q hQr hQn hQp
  replace H := topE H
  unfold spec_GoodRune.f at H
  refine HT_seq_k ?_
  intro K1 hK1
  refine HT_region ?_
  refine HL_cons rfl ?_
  refine o_assign ?_
  try dsimp only [putL, setL, evL, getL]
  refine HL_nil ?_
  refine hK1 _ _ ?_
  refine HT_seq_k ?_
  intro K2 hK2
  refine HT_region ?_
  refine HL_cons rfl ?_
  refine o_move ?_
  try dsimp only [putL, setL, evL, getL]
  replace H := headE H
  obtain ⟨u3, hu3, H⟩ := H
  refine HL_cons rfl ?_
  refine o_call (args := #[.int .i64 p0, .int .i64 0, .int .i64 1114111]) Try.func108 rfl rfl rfl (spec_l1In.ok sb s no p0 0 1114111 (Hp.own hH.bs) _ hu3) ?_
  rintro _ s3 ⟨rfl, hD⟩
  replace hH := hH.back0 hD (Up.refl _ _ _)
  clear hD
  dsimp only [addC, setC, rmC, selC, getC] at hH
  try dsimp only [putL, setL, evL, getL]
  refine HL_cons rfl ?_
  refine o_move ?_
  try dsimp only [putL, setL, evL, getL]
  rcases Bool.eq_false_or_eq_true u3 with hb4 | hb4
  · replace H := iteT hb4 H
    refine HL_want ?_ ?_
    · exact wantT (j := 2) (b := true) (t := 5) (c := u3) rfl rfl rfl rfl hb4
    refine o_move ?_
    try dsimp only [putL, setL, evL, getL]
    replace H := headE H
    obtain ⟨u5, hu5, H⟩ := H
    refine HL_want ?_ ?_
    · exact wantT (j := 2) (b := true) (t := 5) (c := u3) rfl rfl rfl rfl hb4
    refine o_call (args := #[.int .i64 p0, .int .i64 55296, .int .i64 57343]) Try.func108 rfl rfl rfl (spec_l1In.ok sb s3 no p0 55296 57343 (Hp.own hH.bs) _ hu5) ?_
    rintro _ s5 ⟨rfl, hD⟩
    replace hH := hH.back0 hD (Up.refl _ _ _)
    clear hD
    dsimp only [addC, setC, rmC, selC, getC] at hH
    try dsimp only [putL, setL, evL, getL]
    refine HL_want ?_ ?_
    · exact wantT (j := 2) (b := true) (t := 5) (c := u3) rfl rfl rfl rfl hb4
    refine o_not rfl ?_
    try dsimp only [putL, setL, evL, getL]
    refine HL_cons rfl ?_
    refine o_pickT rfl hb4 ?_
    try dsimp only [putL, setL, evL, getL]
    refine HL_cons rfl ?_
    refine o_assign ?_
    try dsimp only [putL, setL, evL, getL]
    refine HL_nil ?_
    refine hK2 _ _ ?_
    refine HT_ret ?_
    exact hQr _ _ [.bool (!u5)] ⟨rfl, trivial⟩ (retH (fun r => spec_GoodRune.post sb s F0 r _ _) (show some _ = some r from H) ⟨rfl, hH⟩)
  · replace H := iteF hb4 H
    refine HL_skip ?_ ?_
    · exact wantF (j := 2) (b := true) (t := 5) (c := u3) rfl rfl rfl rfl hb4
    try dsimp only [putL, setL, evL, getL]
    refine HL_skip ?_ ?_
    · exact wantF (j := 2) (b := true) (t := 5) (c := u3) rfl rfl rfl rfl hb4
    try dsimp only [putL, setL, evL, getL]
    refine HL_skip ?_ ?_
    · exact wantF (j := 2) (b := true) (t := 5) (c := u3) rfl rfl rfl rfl hb4
    try dsimp only [putL, setL, evL, getL]
    refine HL_cons rfl ?_
    refine o_pickF rfl hb4 ?_
    try dsimp only [putL, setL, evL, getL]
    refine HL_cons rfl ?_
    refine o_assign ?_
    try dsimp only [putL, setL, evL, getL]
    refine HL_nil ?_
    refine hK2 _ _ ?_
    refine HT_ret ?_
    exact hQr _ _ [.bool false] ⟨rfl, trivial⟩ (retH (fun r => spec_GoodRune.post sb s F0 r _ _) (show some _ = some r from H) ⟨rfl, hH⟩)
def spec_l1AllRunes.l1 (p0 : List (Int)) : Nat → Int → Option (Lo Unit Bool)
  | 0, _ => none
  | kf + 1, x48 => if (decide (x48 < (p0.length : Int))) = true then ((rd? p0 x48).bind fun u66 => (spec_GoodRune.f u66).bind fun u68 => if (!u68) = true then ((some false).bind fun z => some (Lo.ret z)) else (spec_l1AllRunes.l1 p0 kf (IntKind.i64.wrap (x48 + 1)))) else (some (Lo.go ()))
def spec_l1AllRunes.f (p0 : List (Int)) : Option Bool := (spec_l1AllRunes.l1 p0 ((((p0.length : Int)) - (0)).toNat + 2) 0).bind fun (o : Lo Unit Bool) => match o with | .go () => (some (decide ((p0.length : Int) ≤ 1000))) | .ret z => some z
def spec_l1AllRunes.post (sb s : St) (F0 : Fp) (r : Bool) : Value → St → Prop := fun v s' => v = .bool r ∧ Hp sb s F0 s' []
set_option maxRecDepth 100000 in
set_option maxHeartbeats 4000000 in
theorem spec_l1AllRunes.ok (sb s : St) (F0 : Fp) (A0p : Option Addr) (c0p : Nat) (p0 : List (Int)) (HRp0 : Rd KI sb A0p c0p p0) (hH : Hp sb s F0 s []) (r : Bool) (H : spec_l1AllRunes.f p0 = some r) : GCall Try.prog 119 #[.slice A0p p0.length c0p] s (spec_l1AllRunes.post sb s F0 r) := by
  refine GCall_ofk [.tmp 2] [.slice A0p p0.length c0p, undef, undef, undef, undef, undef, undef, undef, undef, undef, undef, undef, undef, undef, undef, undef, undef, undef] Try.func119 rfl rfl rfl ?_
  intro w Q hQr hQn hQp
  replace H := topE H
  unfold spec_l1AllRunes.f at H
  refine HT_seq_k ?_
  intro K1 hK1
  refine HT_region ?_
  refine HL_cons rfl ?_
  refine o_assign ?_
  try dsimp only [putL, setL, evL, getL]
  refine HL_nil ?_
  refine hK1 _ _ ?_
  refine HT_seq_k ?_
  intro K2 hK2
  refine HT_seq_k ?_
  intro K3 hK3
  refine HT_region ?_
  refine HL_cons rfl ?_
  refine o_move ?_
  try dsimp only [putL, setL, evL, getL]
  refine HL_cons rfl ?_
  refine o_len rfl Try.underlying24 ?_
  try dsimp only [putL, setL, evL, getL]
  refine HL_cons rfl ?_
  refine o_move ?_
  try dsimp only [putL, setL, evL, getL]
  refine HL_nil ?_
  refine hK3 _ _ ?_
  refine joinH H fun G4 hG4 H => ?_
  refine HT_toK (fun l' s' => G4 (.go ()) = some r ∧ l' = [.slice A0p p0.length c0p, undef, getL l' 2, undef, getL l' 4, .slice A0p p0.length c0p, .int .i64 (p0.length : Int), getL l' 7, getL l' 8, getL l' 9, getL l' 10, getL l' 11, getL l' 12, getL l' 13, getL l' 14, undef, undef, undef] ∧ Hp sb s F0 s' []) ?_ ?_
  · intro K4 hK4
    refine HT_block ?_
    refine HT_loopK (fun kf l' s' => ∃ (x48 : Int), (spec_l1AllRunes.l1 p0 kf x48).bind G4 = some r ∧ l' = [.slice A0p p0.length c0p, undef, getL l' 2, undef, getL l' 4, .slice A0p p0.length c0p, .int .i64 (p0.length : Int), .int .i64 x48, getL l' 8, getL l' 9, getL l' 10, getL l' 11, getL l' 12, getL l' 13, getL l' 14, undef, undef, undef] ∧ Hp sb s F0 s' []) ((((p0.length : Int)) - (0)).toNat + 2) ⟨0, H, rfl, hH⟩ ?_
    rintro kf l' s60 ⟨x48, H, hl, hH⟩ K60 hK60
    generalize getL l' 2 = j2, getL l' 4 = j4, getL l' 8 = j8, getL l' 9 = j9, getL l' 10 = j10, getL l' 11 = j11, getL l' 12 = j12, getL l' 13 = j13, getL l' 14 = j14 at hl
    subst hl
    cases kf with
    | zero => simp [spec_l1AllRunes.l1] at H
    | succ kf =>
      rw [spec_l1AllRunes.l1] at H
      refine HT_seq_k ?_
      intro K61 hK61
      refine HT_region ?_
      refine HL_cons rfl ?_
      refine o_bin rfl rfl rfl ?_
      try dsimp only [putL, setL, evL, getL]
      refine HL_nil ?_
      refine hK61 _ _ ?_
      refine HT_seq_k ?_
      intro K62 hK62
      rcases Bool.eq_false_or_eq_true (decide (x48 < (p0.length : Int))) with hb63 | hb63
      · replace H := iteT hb63 H
        refine HT_true (congrArg Value.bool hb63) ?_
        refine HT_skip ?_
        refine hK62 _ _ ?_
        refine HT_seq_k ?_
        intro K64 hK64
        refine HT_block ?_
        refine HT_seq_k ?_
        intro K65 hK65
        refine HT_region ?_
        replace H := headE H
        obtain ⟨u66, hu66, H⟩ := H
        obtain ⟨b66, o66, cs66, hr66, hh66, hel66⟩ := Rd.elb HRp0 hu66
        obtain rfl := hr66
        refine HL_cons rfl ?_
        refine hel66 s60 rfl rfl Try.underlying24 tI3 ?_
        try dsimp only [putL, setL, evL, getL]
        refine HL_cons rfl ?_
        refine o_load' rfl Try.underlying3 rfl ((hh66 hH.bs.mono) 0 _ rfl) ?_
        try dsimp only [putL, setL, evL, getL]
        refine HL_cons rfl ?_
        refine o_assign ?_
        try dsimp only [putL, setL, evL, getL]
        refine HL_nil ?_
        refine hK65 _ _ ?_
        refine HT_seq_k ?_
        intro K67 hK67
        refine HT_region ?_
        refine HL_cons rfl ?_
        refine o_move ?_
        try dsimp only [putL, setL, evL, getL]
        replace H := headE H
        obtain ⟨u68, hu68, H⟩ := H
        refine HL_cons rfl ?_
        refine o_call (args := #[.int .i64 u66]) Try.func148 rfl rfl rfl (spec_GoodRune.ok sb s60 no u66 (Hp.own hH.bs) _ hu68) ?_
        rintro _ s68 ⟨rfl, hD⟩
        replace hH := hH.back0 hD (Up.refl _ _ _)
        clear hD
        dsimp only [addC, setC, rmC, selC, getC] at hH
        try dsimp only [putL, setL, evL, getL]
        refine HL_cons rfl ?_
        refine o_not rfl ?_
        try dsimp only [putL, setL, evL, getL]
        refine HL_nil ?_
        refine hK67 _ _ ?_
        rcases Bool.eq_false_or_eq_true (!u68) with hb69 | hb69
        · replace H := iteT hb69 H
          refine HT_true (congrArg Value.bool hb69) ?_
          refine HT_seq_k ?_
          intro K70 hK70
          refine HT_region ?_
          refine HL_cons rfl ?_
          refine o_assign ?_
          try dsimp only [putL, setL, evL, getL]
          refine HL_nil ?_
          refine hK70 _ _ ?_
          refine HT_ret ?_
          replace H := escH (fun z hz => hG4 _ hz) H
          exact hQr _ _ [.bool false] ⟨rfl, trivial⟩ (retH (fun r => spec_l1AllRunes.post sb s F0 r _ _) (show some _ = some r from H) ⟨rfl, hH⟩)
        · replace H := iteF hb69 H
          refine HT_false (congrArg Value.bool hb69) ?_
          refine HT_skip ?_
          refine hK64 _ _ ?_
          refine HT_region ?_
          refine HL_cons rfl ?_
          refine o_bin rfl rfl rfl ?_
          try dsimp only [putL, setL, evL, getL]
          refine HL_cons rfl ?_
          refine o_move ?_
          try dsimp only [putL, setL, evL, getL]
          refine HL_nil ?_
          exact hK60 _ _ ⟨kf, Nat.lt_succ_self kf, IntKind.i64.wrap (x48 + 1), H, rfl, hH⟩
      · replace H := iteF hb63 H
        refine HT_false (congrArg Value.bool hb63) ?_
        refine HT_exit ?_
        exact hK4 _ _ ⟨H, rfl, hH⟩
  · rintro l' s71 ⟨H, hl, hH⟩
    generalize getL l' 2 = j2, getL l' 4 = j4, getL l' 7 = j7, getL l' 8 = j8, getL l' 9 = j9, getL l' 10 = j10, getL l' 11 = j11, getL l' 12 = j12, getL l' 13 = j13, getL l' 14 = j14 at hl
    subst hl
    replace H := hG4 _ H
    try dsimp only at H
    refine hK2 _ _ ?_
    refine HT_seq_k ?_
    intro K72 hK72
    refine HT_region ?_
    refine HL_cons rfl ?_
    refine o_move ?_
    try dsimp only [putL, setL, evL, getL]
    refine HL_cons rfl ?_
    refine o_len rfl Try.underlying24 ?_
    try dsimp only [putL, setL, evL, getL]
    refine HL_cons rfl ?_
    refine o_bin rfl rfl rfl ?_
    try dsimp only [putL, setL, evL, getL]
    refine HL_cons rfl ?_
    refine o_assign ?_
    try dsimp only [putL, setL, evL, getL]
    refine HL_nil ?_
    refine hK72 _ _ ?_
    refine HT_ret ?_
    exact hQr _ _ [.bool (decide ((p0.length : Int) ≤ 1000))] ⟨rfl, trivial⟩ (retH (fun r => spec_l1AllRunes.post sb s F0 r _ _) (show some _ = some r from H) ⟨rfl, hH⟩)
def spec_l1All.l1 (p0 : List (Int)) (p1 : Int) (p2 : Int) : Nat → Int → Option (Lo Unit Bool)
  | 0, _ => none
  | kf + 1, x48 => if (decide (x48 < (p0.length : Int))) = true then ((rd? p0 x48).bind fun u66 => (spec_l1In.f u66 p1 p2).bind fun u68 => if (!u68) = true then ((some false).bind fun z => some (Lo.ret z)) else (spec_l1All.l1 p0 p1 p2 kf (IntKind.i64.wrap (x48 + 1)))) else (some (Lo.go ()))
def spec_l1All.f (p0 : List (Int)) (p1 : Int) (p2 : Int) : Option Bool := (spec_l1All.l1 p0 p1 p2 ((((p0.length : Int)) - (0)).toNat + 2) 0).bind fun (o : Lo Unit Bool) => match o with | .go () => (some true) | .ret z => some z
def spec_l1All.post (sb s : St) (F0 : Fp) (r : Bool) : Value → St → Prop := fun v s' => v = .bool r ∧ Hp sb s F0 s' []
set_option maxRecDepth 100000 in
set_option maxHeartbeats 4000000 in
theorem spec_l1All.ok (sb s : St) (F0 : Fp) (A0p : Option Addr) (c0p : Nat) (p0 : List (Int)) (p1 : Int) (p2 : Int) (HRp0 : Rd KI sb A0p c0p p0) (hH : Hp sb s F0 s []) (r : Bool) (H : spec_l1All.f p0 p1 p2 = some r) : GCall Try.prog 120 #[.slice A0p p0.length c0p, .int .i64 p1, .int .i64 p2] s (spec_l1All.post sb s F0 r) := by
  refine GCall_ofk [.tmp 6] [.slice A0p p0.length c0p, .int .i64 p1, .int .i64 p2, undef, undef, undef, undef, undef, undef, undef, undef, undef, undef, undef, undef, undef, undef, undef, undef, undef, undef] Try.func120 rfl rfl rfl ?_
  intro w Q hQr hQn hQp
  replace H := topE H
  unfold spec_l1All.f at H
  refine HT_seq_k ?_
  intro K1 hK1
  refine HT_region ?_
  refine HL_cons rfl ?_
  refine o_assign ?_
  try dsimp only [putL, setL, evL, getL]
  refine HL_nil ?_
  refine hK1 _ _ ?_
  refine HT_seq_k ?_
  intro K2 hK2
  refine HT_seq_k ?_
  intro K3 hK3
  refine HT_region ?_
  refine HL_cons rfl ?_
  refine o_move ?_
  try dsimp only [putL, setL, evL, getL]
  refine HL_cons rfl ?_
  refine o_len rfl Try.underlying24 ?_
  try dsimp only [putL, setL, evL, getL]
  refine HL_cons rfl ?_
  refine o_move ?_
  try dsimp only [putL, setL, evL, getL]
  refine HL_nil ?_
  refine hK3 _ _ ?_
  refine joinH H fun G4 hG4 H => ?_
  refine HT_toK (fun l' s' => G4 (.go ()) = some r ∧ l' = [.slice A0p p0.length c0p, .int .i64 p1, .int .i64 p2, undef, undef, undef, getL l' 6, undef, getL l' 8, .slice A0p p0.length c0p, .int .i64 (p0.length : Int), getL l' 11, getL l' 12, getL l' 13, getL l' 14, getL l' 15, getL l' 16, getL l' 17, getL l' 18, getL l' 19, getL l' 20] ∧ Hp sb s F0 s' []) ?_ ?_
  · intro K4 hK4
    refine HT_block ?_
    refine HT_loopK (fun kf l' s' => ∃ (x48 : Int), (spec_l1All.l1 p0 p1 p2 kf x48).bind G4 = some r ∧ l' = [.slice A0p p0.length c0p, .int .i64 p1, .int .i64 p2, undef, undef, undef, getL l' 6, undef, getL l' 8, .slice A0p p0.length c0p, .int .i64 (p0.length : Int), .int .i64 x48, getL l' 12, getL l' 13, getL l' 14, getL l' 15, getL l' 16, getL l' 17, getL l' 18, getL l' 19, getL l' 20] ∧ Hp sb s F0 s' []) ((((p0.length : Int)) - (0)).toNat + 2) ⟨0, H, rfl, hH⟩ ?_
    rintro kf l' s60 ⟨x48, H, hl, hH⟩ K60 hK60
    generalize getL l' 6 = j6, getL l' 8 = j8, getL l' 12 = j12, getL l' 13 = j13, getL l' 14 = j14, getL l' 15 = j15, getL l' 16 = j16, getL l' 17 = j17, getL l' 18 = j18, getL l' 19 = j19, getL l' 20 = j20 at hl
    subst hl
    cases kf with
    | zero => simp [spec_l1All.l1] at H
    | succ kf =>
      rw [spec_l1All.l1] at H
      refine HT_seq_k ?_
      intro K61 hK61
      refine HT_region ?_
      refine HL_cons rfl ?_
      refine o_bin rfl rfl rfl ?_
      try dsimp only [putL, setL, evL, getL]
      refine HL_nil ?_
      refine hK61 _ _ ?_
      refine HT_seq_k ?_
      intro K62 hK62
      rcases Bool.eq_false_or_eq_true (decide (x48 < (p0.length : Int))) with hb63 | hb63
      · replace H := iteT hb63 H
        refine HT_true (congrArg Value.bool hb63) ?_
        refine HT_skip ?_
        refine hK62 _ _ ?_
        refine HT_seq_k ?_
        intro K64 hK64
        refine HT_block ?_
        refine HT_seq_k ?_
        intro K65 hK65
        refine HT_region ?_
        replace H := headE H
        obtain ⟨u66, hu66, H⟩ := H
        obtain ⟨b66, o66, cs66, hr66, hh66, hel66⟩ := Rd.elb HRp0 hu66
        obtain rfl := hr66
        refine HL_cons rfl ?_
        refine hel66 s60 rfl rfl Try.underlying24 tI3 ?_
        try dsimp only [putL, setL, evL, getL]
        refine HL_cons rfl ?_
        refine o_load' rfl Try.underlying3 rfl ((hh66 hH.bs.mono) 0 _ rfl) ?_
        try dsimp only [putL, setL, evL, getL]
        refine HL_cons rfl ?_
        refine o_assign ?_
        try dsimp only [putL, setL, evL, getL]
        refine HL_nil ?_
        refine hK65 _ _ ?_
        refine HT_seq_k ?_
        intro K67 hK67
        refine HT_region ?_
        refine HL_cons rfl ?_
        refine o_move ?_
        try dsimp only [putL, setL, evL, getL]
        refine HL_cons rfl ?_
        refine o_move ?_
        try dsimp only [putL, setL, evL, getL]
        refine HL_cons rfl ?_
        refine o_move ?_
        try dsimp only [putL, setL, evL, getL]
        replace H := headE H
        obtain ⟨u68, hu68, H⟩ := H
        refine HL_cons rfl ?_
        refine o_call (args := #[.int .i64 u66, .int .i64 p1, .int .i64 p2]) Try.func108 rfl rfl rfl (spec_l1In.ok sb s60 no u66 p1 p2 (Hp.own hH.bs) _ hu68) ?_
        rintro _ s68 ⟨rfl, hD⟩
        replace hH := hH.back0 hD (Up.refl _ _ _)
        clear hD
        dsimp only [addC, setC, rmC, selC, getC] at hH
        try dsimp only [putL, setL, evL, getL]
        refine HL_cons rfl ?_
        refine o_not rfl ?_
        try dsimp only [putL, setL, evL, getL]
        refine HL_nil ?_
        refine hK67 _ _ ?_
        rcases Bool.eq_false_or_eq_true (!u68) with hb69 | hb69
        · replace H := iteT hb69 H
          refine HT_true (congrArg Value.bool hb69) ?_
          refine HT_seq_k ?_
          intro K70 hK70
          refine HT_region ?_
          refine HL_cons rfl ?_
          refine o_assign ?_
          try dsimp only [putL, setL, evL, getL]
          refine HL_nil ?_
          refine hK70 _ _ ?_
          refine HT_ret ?_
          replace H := escH (fun z hz => hG4 _ hz) H
          exact hQr _ _ [.bool false] ⟨rfl, trivial⟩ (retH (fun r => spec_l1All.post sb s F0 r _ _) (show some _ = some r from H) ⟨rfl, hH⟩)
        · replace H := iteF hb69 H
          refine HT_false (congrArg Value.bool hb69) ?_
          refine HT_skip ?_
          refine hK64 _ _ ?_
          refine HT_region ?_
          refine HL_cons rfl ?_
          refine o_bin rfl rfl rfl ?_
          try dsimp only [putL, setL, evL, getL]
          refine HL_cons rfl ?_
          refine o_move ?_
          try dsimp only [putL, setL, evL, getL]
          refine HL_nil ?_
          exact hK60 _ _ ⟨kf, Nat.lt_succ_self kf, IntKind.i64.wrap (x48 + 1), H, rfl, hH⟩
      · replace H := iteF hb63 H
        refine HT_false (congrArg Value.bool hb63) ?_
        refine HT_exit ?_
        exact hK4 _ _ ⟨H, rfl, hH⟩
  · rintro l' s71 ⟨H, hl, hH⟩
    generalize getL l' 6 = j6, getL l' 8 = j8, getL l' 11 = j11, getL l' 12 = j12, getL l' 13 = j13, getL l' 14 = j14, getL l' 15 = j15, getL l' 16 = j16, getL l' 17 = j17, getL l' 18 = j18, getL l' 19 = j19, getL l' 20 = j20 at hl
    subst hl
    replace H := hG4 _ H
    try dsimp only at H
    refine hK2 _ _ ?_
    refine HT_seq_k ?_
    intro K72 hK72
    refine HT_region ?_
    refine HL_cons rfl ?_
    refine o_assign ?_
    try dsimp only [putL, setL, evL, getL]
    refine HL_nil ?_
    refine hK72 _ _ ?_
    refine HT_ret ?_
    exact hQr _ _ [.bool true] ⟨rfl, trivial⟩ (retH (fun r => spec_l1All.post sb s F0 r _ _) (show some _ = some r from H) ⟨rfl, hH⟩)
def spec_GoodBuf.f (p0_0 : Int) (p0_1 : List (Int)) (p0_2 : List (Int)) (p0_3 : Int) : Option Bool := (spec_l1In.f p0_0 1 60).bind fun u4 => if u4 = true then (if (decide ((p0_1.length : Int) ≤ p0_0)) = true then ((spec_l1AllRunes.f p0_1).bind fun u7 => if u7 = true then (if ((p0_2.length : Int) == (p0_1.length : Int)) = true then ((spec_l1All.f p0_2 1 1000).bind fun u10 => if u10 = true then ((spec_l1In.f p0_3 0 1000000).bind fun u12 => some u12) else (some false)) else (some false)) else (some false)) else (some false)) else (some false)
def spec_GoodBuf.post (sb s : St) (F0 : Fp) (r : Bool) : Value → St → Prop := fun v s' => v = .bool r ∧ Hp sb s F0 s' []
set_option maxRecDepth 100000 in
set_option maxHeartbeats 4000000 in
theorem spec_GoodBuf.ok (sb s : St) (F0 : Fp) (p0_0 : Int) (A0_1p : Option Addr) (c0_1p : Nat) (p0_1 : List (Int)) (A0_2p : Option Addr) (c0_2p : Nat) (p0_2 : List (Int)) (p0_3 : Int) (HRp0_1 : Rd KI sb A0_1p c0_1p p0_1) (HRp0_2 : Rd KI sb A0_2p c0_2p p0_2) (hH : Hp sb s F0 s []) (r : Bool) (H : spec_GoodBuf.f p0_0 p0_1 p0_2 p0_3 = some r) : GCall Try.prog 29 #[.agg #[.int .i64 p0_0, .slice A0_1p p0_1.length c0_1p, .slice A0_2p p0_2.length c0_2p, .int .i64 p0_3]] s (spec_GoodBuf.post sb s F0 r) := by
  refine GCall_ofk [.tmp 2] [.agg #[.int .i64 p0_0, .slice A0_1p p0_1.length c0_1p, .slice A0_2p p0_2.length c0_2p, .int .i64 p0_3], undef, undef, undef, undef, undef, undef, undef, undef, undef, undef, undef, undef, undef, undef, undef, undef, undef, undef, undef, undef, undef, undef, undef, undef, undef, undef, undef, undef, undef, undef, undef, undef, undef, undef, undef, undef, undef] Try.func29 rfl rfl rfl ?_
  intro w Q hQr hQn hQp
  replace H := topE H
  unfold spec_GoodBuf.f at H
  refine HT_seq_k ?_
  intro K1 hK1
  refine HT_region ?_
  refine HL_cons rfl ?_
  refine o_boxH hH rfl ?_
  intro b2 s2 hH' hG
  replace hH : Hp sb s F0 s2 [Ck.ov b2 [.int .i64 p0_0, .slice A0_1p p0_1.length c0_1p, .slice A0_2p p0_2.length c0_2p, .int .i64 p0_3] 37] := hH'
  clear hH' hG
  try dsimp only [putL, setL, evL, getL]
  refine HL_cons rfl ?_
  refine o_assign ?_
  try dsimp only [putL, setL, evL, getL]
  refine HL_nil ?_
  refine hK1 _ _ ?_
  refine HT_seq_k ?_
  intro K3 hK3
  refine HT_region ?_
  refine HL_cons rfl ?_
  refine o_faddr' (ft := 3) (off := 0) rfl Try.underlying37 rfl tI3 (by decide) ?_
  try dsimp only [putL, setL, evL, getL]
  refine HL_cons rfl ?_
  refine o_load' rfl Try.underlying3 rfl (hH.hasv 0 rfl rfl) ?_
  try dsimp only [putL, setL, evL, getL]
  replace H := headE H
  obtain ⟨u4, hu4, H⟩ := H
  refine HL_cons rfl ?_
  refine o_call (args := #[.int .i64 p0_0, .int .i64 1, .int .i64 60]) Try.func108 rfl rfl rfl (spec_l1In.ok sb s2 no p0_0 1 60 (Hp.own hH.bs) _ hu4) ?_
  rintro _ s4 ⟨rfl, hD⟩
  replace hH := hH.back0 hD (Up.refl _ _ _)
  clear hD
  dsimp only [addC, setC, rmC, selC, getC] at hH
  try dsimp only [putL, setL, evL, getL]
  refine HL_cons rfl ?_
  refine o_move ?_
  try dsimp only [putL, setL, evL, getL]
  rcases Bool.eq_false_or_eq_true u4 with hb5 | hb5
  · replace H := iteT hb5 H
    refine HL_want ?_ ?_
    · exact wantT (j := 3) (b := true) (t := 6) (c := u4) rfl rfl rfl rfl hb5
    refine o_faddr' (ft := 24) (off := 1) rfl Try.underlying37 rfl tI24 (by decide) ?_
    try dsimp only [putL, setL, evL, getL]
    refine HL_want ?_ ?_
    · exact wantT (j := 3) (b := true) (t := 6) (c := u4) rfl rfl rfl rfl hb5
    refine o_load' rfl Try.underlying24 rfl (hH.hasv 0 rfl rfl) ?_
    try dsimp only [putL, setL, evL, getL]
    refine HL_want ?_ ?_
    · exact wantT (j := 3) (b := true) (t := 6) (c := u4) rfl rfl rfl rfl hb5
    refine o_len rfl Try.underlying24 ?_
    try dsimp only [putL, setL, evL, getL]
    refine HL_want ?_ ?_
    · exact wantT (j := 3) (b := true) (t := 6) (c := u4) rfl rfl rfl rfl hb5
    refine o_faddr' (ft := 3) (off := 0) rfl Try.underlying37 rfl tI3 (by decide) ?_
    try dsimp only [putL, setL, evL, getL]
    refine HL_want ?_ ?_
    · exact wantT (j := 3) (b := true) (t := 6) (c := u4) rfl rfl rfl rfl hb5
    refine o_load' rfl Try.underlying3 rfl (hH.hasv 0 rfl rfl) ?_
    try dsimp only [putL, setL, evL, getL]
    refine HL_want ?_ ?_
    · exact wantT (j := 3) (b := true) (t := 6) (c := u4) rfl rfl rfl rfl hb5
    refine o_bin rfl rfl rfl ?_
    try dsimp only [putL, setL, evL, getL]
    refine HL_cons rfl ?_
    refine o_pickT rfl hb5 ?_
    try dsimp only [putL, setL, evL, getL]
    refine HL_cons rfl ?_
    refine o_move ?_
    try dsimp only [putL, setL, evL, getL]
    rcases Bool.eq_false_or_eq_true (decide ((p0_1.length : Int) ≤ p0_0)) with hb6 | hb6
    · replace H := iteT hb6 H
      refine HL_want ?_ ?_
      · exact wantT (j := 11) (b := true) (t := 14) (c := decide ((p0_1.length : Int) ≤ p0_0)) rfl rfl rfl rfl hb6
      refine o_faddr' (ft := 24) (off := 1) rfl Try.underlying37 rfl tI24 (by decide) ?_
      try dsimp only [putL, setL, evL, getL]
      refine HL_want ?_ ?_
      · exact wantT (j := 11) (b := true) (t := 14) (c := decide ((p0_1.length : Int) ≤ p0_0)) rfl rfl rfl rfl hb6
      refine o_load' rfl Try.underlying24 rfl (hH.hasv 0 rfl rfl) ?_
      try dsimp only [putL, setL, evL, getL]
      replace H := headE H
      obtain ⟨u7, hu7, H⟩ := H
      refine HL_want ?_ ?_
      · exact wantT (j := 11) (b := true) (t := 14) (c := decide ((p0_1.length : Int) ≤ p0_0)) rfl rfl rfl rfl hb6
      refine o_call (args := #[.slice A0_1p p0_1.length c0_1p]) Try.func119 rfl rfl rfl (spec_l1AllRunes.ok sb s4 no A0_1p c0_1p p0_1 HRp0_1 (Hp.own hH.bs) _ hu7) ?_
      rintro _ s7 ⟨rfl, hD⟩
      replace hH := hH.back0 hD (Up.refl _ _ _)
      clear hD
      dsimp only [addC, setC, rmC, selC, getC] at hH
      try dsimp only [putL, setL, evL, getL]
      refine HL_cons rfl ?_
      refine o_pickT rfl hb6 ?_
      try dsimp only [putL, setL, evL, getL]
      refine HL_cons rfl ?_
      refine o_move ?_
      try dsimp only [putL, setL, evL, getL]
      rcases Bool.eq_false_or_eq_true u7 with hb8 | hb8
      · replace H := iteT hb8 H
        refine HL_want ?_ ?_
        · exact wantT (j := 16) (b := true) (t := 19) (c := u7) rfl rfl rfl rfl hb8
        refine o_faddr' (ft := 24) (off := 2) rfl Try.underlying37 rfl tI24 (by decide) ?_
        try dsimp only [putL, setL, evL, getL]
        refine HL_want ?_ ?_
        · exact wantT (j := 16) (b := true) (t := 19) (c := u7) rfl rfl rfl rfl hb8
        refine o_load' rfl Try.underlying24 rfl (hH.hasv 0 rfl rfl) ?_
        try dsimp only [putL, setL, evL, getL]
        refine HL_want ?_ ?_
        · exact wantT (j := 16) (b := true) (t := 19) (c := u7) rfl rfl rfl rfl hb8
        refine o_len rfl Try.underlying24 ?_
        try dsimp only [putL, setL, evL, getL]
        refine HL_want ?_ ?_
        · exact wantT (j := 16) (b := true) (t := 19) (c := u7) rfl rfl rfl rfl hb8
        refine o_faddr' (ft := 24) (off := 1) rfl Try.underlying37 rfl tI24 (by decide) ?_
        try dsimp only [putL, setL, evL, getL]
        refine HL_want ?_ ?_
        · exact wantT (j := 16) (b := true) (t := 19) (c := u7) rfl rfl rfl rfl hb8
        refine o_load' rfl Try.underlying24 rfl (hH.hasv 0 rfl rfl) ?_
        try dsimp only [putL, setL, evL, getL]
        refine HL_want ?_ ?_
        · exact wantT (j := 16) (b := true) (t := 19) (c := u7) rfl rfl rfl rfl hb8
        refine o_len rfl Try.underlying24 ?_
        try dsimp only [putL, setL, evL, getL]
        refine HL_want ?_ ?_
        · exact wantT (j := 16) (b := true) (t := 19) (c := u7) rfl rfl rfl rfl hb8
        refine o_bin rfl rfl rfl ?_
        try dsimp only [putL, setL, evL, getL]
        refine HL_cons rfl ?_
        refine o_pickT rfl hb8 ?_
        try dsimp only [putL, setL, evL, getL]
        refine HL_cons rfl ?_
        refine o_move ?_
        try dsimp only [putL, setL, evL, getL]
        rcases Bool.eq_false_or_eq_true ((p0_2.length : Int) == (p0_1.length : Int)) with hb9 | hb9
        · replace H := iteT hb9 H
          refine HL_want ?_ ?_
          · exact wantT (j := 25) (b := true) (t := 28) (c := (p0_2.length : Int) == (p0_1.length : Int)) rfl rfl rfl rfl hb9
          refine o_faddr' (ft := 24) (off := 2) rfl Try.underlying37 rfl tI24 (by decide) ?_
          try dsimp only [putL, setL, evL, getL]
          refine HL_want ?_ ?_
          · exact wantT (j := 25) (b := true) (t := 28) (c := (p0_2.length : Int) == (p0_1.length : Int)) rfl rfl rfl rfl hb9
          refine o_load' rfl Try.underlying24 rfl (hH.hasv 0 rfl rfl) ?_
          try dsimp only [putL, setL, evL, getL]
          replace H := headE H
          obtain ⟨u10, hu10, H⟩ := H
          refine HL_want ?_ ?_
          · exact wantT (j := 25) (b := true) (t := 28) (c := (p0_2.length : Int) == (p0_1.length : Int)) rfl rfl rfl rfl hb9
          refine o_call (args := #[.slice A0_2p p0_2.length c0_2p, .int .i64 1, .int .i64 1000]) Try.func120 rfl rfl rfl (spec_l1All.ok sb s7 no A0_2p c0_2p p0_2 1 1000 HRp0_2 (Hp.own hH.bs) _ hu10) ?_
          rintro _ s10 ⟨rfl, hD⟩
          replace hH := hH.back0 hD (Up.refl _ _ _)
          clear hD
          dsimp only [addC, setC, rmC, selC, getC] at hH
          try dsimp only [putL, setL, evL, getL]
          refine HL_cons rfl ?_
          refine o_pickT rfl hb9 ?_
          try dsimp only [putL, setL, evL, getL]
          refine HL_cons rfl ?_
          refine o_move ?_
          try dsimp only [putL, setL, evL, getL]
          rcases Bool.eq_false_or_eq_true u10 with hb11 | hb11
          · replace H := iteT hb11 H
            refine HL_want ?_ ?_
            · exact wantT (j := 30) (b := true) (t := 33) (c := u10) rfl rfl rfl rfl hb11
            refine o_faddr' (ft := 3) (off := 3) rfl Try.underlying37 rfl tI3 (by decide) ?_
            try dsimp only [putL, setL, evL, getL]
            refine HL_want ?_ ?_
            · exact wantT (j := 30) (b := true) (t := 33) (c := u10) rfl rfl rfl rfl hb11
            refine o_load' rfl Try.underlying3 rfl (hH.hasv 0 rfl rfl) ?_
            try dsimp only [putL, setL, evL, getL]
            replace H := headE H
            obtain ⟨u12, hu12, H⟩ := H
            refine HL_want ?_ ?_
            · exact wantT (j := 30) (b := true) (t := 33) (c := u10) rfl rfl rfl rfl hb11
            refine o_call (args := #[.int .i64 p0_3, .int .i64 0, .int .i64 1000000]) Try.func108 rfl rfl rfl (spec_l1In.ok sb s10 no p0_3 0 1000000 (Hp.own hH.bs) _ hu12) ?_
            rintro _ s12 ⟨rfl, hD⟩
            replace hH := hH.back0 hD (Up.refl _ _ _)
            clear hD
            dsimp only [addC, setC, rmC, selC, getC] at hH
            try dsimp only [putL, setL, evL, getL]
            refine HL_cons rfl ?_
            refine o_pickT rfl hb11 ?_
            try dsimp only [putL, setL, evL, getL]
            refine HL_cons rfl ?_
            refine o_assign ?_
            try dsimp only [putL, setL, evL, getL]
            refine HL_nil ?_
            refine hK3 _ _ ?_
            refine HT_ret ?_
            exact hQr _ _ [.bool u12] ⟨rfl, trivial⟩ (retH (fun r => spec_GoodBuf.post sb s F0 r _ _) (show some _ = some r from H) ⟨rfl, hH.sel [] (by decide)⟩)
          · replace H := iteF hb11 H
            refine HL_skip ?_ ?_
            · exact wantF (j := 30) (b := true) (t := 33) (c := u10) rfl rfl rfl rfl hb11
            try dsimp only [putL, setL, evL, getL]
            refine HL_skip ?_ ?_
            · exact wantF (j := 30) (b := true) (t := 33) (c := u10) rfl rfl rfl rfl hb11
            try dsimp only [putL, setL, evL, getL]
            refine HL_skip ?_ ?_
            · exact wantF (j := 30) (b := true) (t := 33) (c := u10) rfl rfl rfl rfl hb11
            try dsimp only [putL, setL, evL, getL]
            refine HL_cons rfl ?_
            refine o_pickF rfl hb11 ?_
            try dsimp only [putL, setL, evL, getL]
            refine HL_cons rfl ?_
            refine o_assign ?_
            try dsimp only [putL, setL, evL, getL]
            refine HL_nil ?_
            refine hK3 _ _ ?_
            refine HT_ret ?_
            exact hQr _ _ [.bool false] ⟨rfl, trivial⟩ (retH (fun r => spec_GoodBuf.post sb s F0 r _ _) (show some _ = some r from H) ⟨rfl, hH.sel [] (by decide)⟩)
        · replace H := iteF hb9 H
          refine HL_skip ?_ ?_
          · exact wantF (j := 25) (b := true) (t := 28) (c := (p0_2.length : Int) == (p0_1.length : Int)) rfl rfl rfl rfl hb9
          try dsimp only [putL, setL, evL, getL]
          refine HL_skip ?_ ?_
          · exact wantF (j := 25) (b := true) (t := 28) (c := (p0_2.length : Int) == (p0_1.length : Int)) rfl rfl rfl rfl hb9
          try dsimp only [putL, setL, evL, getL]
          refine HL_skip ?_ ?_
          · exact wantF (j := 25) (b := true) (t := 28) (c := (p0_2.length : Int) == (p0_1.length : Int)) rfl rfl rfl rfl hb9
          try dsimp only [putL, setL, evL, getL]
          refine HL_cons rfl ?_
          refine o_pickF rfl hb9 ?_
          try dsimp only [putL, setL, evL, getL]
          refine HL_cons rfl ?_
          refine o_move ?_
          try dsimp only [putL, setL, evL, getL]
          refine HL_skip ?_ ?_
          · exact wantF (j := 30) (b := true) (t := 33) (c := false) rfl rfl rfl rfl rfl
          try dsimp only [putL, setL, evL, getL]
          refine HL_skip ?_ ?_
          · exact wantF (j := 30) (b := true) (t := 33) (c := false) rfl rfl rfl rfl rfl
          try dsimp only [putL, setL, evL, getL]
          refine HL_skip ?_ ?_
          · exact wantF (j := 30) (b := true) (t := 33) (c := false) rfl rfl rfl rfl rfl
          try dsimp only [putL, setL, evL, getL]
          refine HL_cons rfl ?_
          refine o_pickF rfl rfl ?_
          try dsimp only [putL, setL, evL, getL]
          refine HL_cons rfl ?_
          refine o_assign ?_
          try dsimp only [putL, setL, evL, getL]
          refine HL_nil ?_
          refine hK3 _ _ ?_
          refine HT_ret ?_
          exact hQr _ _ [.bool false] ⟨rfl, trivial⟩ (retH (fun r => spec_GoodBuf.post sb s F0 r _ _) (show some _ = some r from H) ⟨rfl, hH.sel [] (by decide)⟩)
      · replace H := iteF hb8 H
        refine HL_skip ?_ ?_
        · exact wantF (j := 16) (b := true) (t := 19) (c := u7) rfl rfl rfl rfl hb8
        try dsimp only [putL, setL, evL, getL]
        refine HL_skip ?_ ?_
        · exact wantF (j := 16) (b := true) (t := 19) (c := u7) rfl rfl rfl rfl hb8
        try dsimp only [putL, setL, evL, getL]
        refine HL_skip ?_ ?_
        · exact wantF (j := 16) (b := true) (t := 19) (c := u7) rfl rfl rfl rfl hb8
        try dsimp only [putL, setL, evL, getL]
        refine HL_skip ?_ ?_
        · exact wantF (j := 16) (b := true) (t := 19) (c := u7) rfl rfl rfl rfl hb8
        try dsimp only [putL, setL, evL, getL]
        refine HL_skip ?_ ?_
        · exact wantF (j := 16) (b := true) (t := 19) (c := u7) rfl rfl rfl rfl hb8
        try dsimp only [putL, setL, evL, getL]
        refine HL_skip ?_ ?_
        · exact wantF (j := 16) (b := true) (t := 19) (c := u7) rfl rfl rfl rfl hb8
        try dsimp only [putL, setL, evL, getL]
        refine HL_skip ?_ ?_
        · exact wantF (j := 16) (b := true) (t := 19) (c := u7) rfl rfl rfl rfl hb8
        try dsimp only [putL, setL, evL, getL]
        refine HL_cons rfl ?_
        refine o_pickF rfl hb8 ?_
        try dsimp only [putL, setL, evL, getL]
        refine HL_cons rfl ?_
        refine o_move ?_
        try dsimp only [putL, setL, evL, getL]
        refine HL_skip ?_ ?_
        · exact wantF (j := 25) (b := true) (t := 28) (c := false) rfl rfl rfl rfl rfl
        try dsimp only [putL, setL, evL, getL]
        refine HL_skip ?_ ?_
        · exact wantF (j := 25) (b := true) (t := 28) (c := false) rfl rfl rfl rfl rfl
        try dsimp only [putL, setL, evL, getL]
        refine HL_skip ?_ ?_
        · exact wantF (j := 25) (b := true) (t := 28) (c := false) rfl rfl rfl rfl rfl
        try dsimp only [putL, setL, evL, getL]
        refine HL_cons rfl ?_
        refine o_pickF rfl rfl ?_
        try dsimp only [putL, setL, evL, getL]
        refine HL_cons rfl ?_
        refine o_move ?_
        try dsimp only [putL, setL, evL, getL]
        refine HL_skip ?_ ?_
        · exact wantF (j := 30) (b := true) (t := 33) (c := false) rfl rfl rfl rfl rfl
        try dsimp only [putL, setL, evL, getL]
        refine HL_skip ?_ ?_
        · exact wantF (j := 30) (b := true) (t := 33) (c := false) rfl rfl rfl rfl rfl
        try dsimp only [putL, setL, evL, getL]
        refine HL_skip ?_ ?_
        · exact wantF (j := 30) (b := true) (t := 33) (c := false) rfl rfl rfl rfl rfl
        try dsimp only [putL, setL, evL, getL]
        refine HL_cons rfl ?_
        refine o_pickF rfl rfl ?_
        try dsimp only [putL, setL, evL, getL]
        refine HL_cons rfl ?_
        refine o_assign ?_
        try dsimp only [putL, setL, evL, getL]
        refine HL_nil ?_
        refine hK3 _ _ ?_
        refine HT_ret ?_
        exact hQr _ _ [.bool false] ⟨rfl, trivial⟩ (retH (fun r => spec_GoodBuf.post sb s F0 r _ _) (show some _ = some r from H) ⟨rfl, hH.sel [] (by decide)⟩)
    · replace H := iteF hb6 H
      refine HL_skip ?_ ?_
      · exact wantF (j := 11) (b := true) (t := 14) (c := decide ((p0_1.length : Int) ≤ p0_0)) rfl rfl rfl rfl hb6
      try dsimp only [putL, setL, evL, getL]
      refine HL_skip ?_ ?_
      · exact wantF (j := 11) (b := true) (t := 14) (c := decide ((p0_1.length : Int) ≤ p0_0)) rfl rfl rfl rfl hb6
      try dsimp only [putL, setL, evL, getL]
      refine HL_skip ?_ ?_
      · exact wantF (j := 11) (b := true) (t := 14) (c := decide ((p0_1.length : Int) ≤ p0_0)) rfl rfl rfl rfl hb6
      try dsimp only [putL, setL, evL, getL]
      refine HL_cons rfl ?_
      refine o_pickF rfl hb6 ?_
      try dsimp only [putL, setL, evL, getL]
      refine HL_cons rfl ?_
      refine o_move ?_
      try dsimp only [putL, setL, evL, getL]
      refine HL_skip ?_ ?_
      · exact wantF (j := 16) (b := true) (t := 19) (c := false) rfl rfl rfl rfl rfl
      try dsimp only [putL, setL, evL, getL]
      refine HL_skip ?_ ?_
      · exact wantF (j := 16) (b := true) (t := 19) (c := false) rfl rfl rfl rfl rfl
      try dsimp only [putL, setL, evL, getL]
      refine HL_skip ?_ ?_
      · exact wantF (j := 16) (b := true) (t := 19) (c := false) rfl rfl rfl rfl rfl
      try dsimp only [putL, setL, evL, getL]
      refine HL_skip ?_ ?_
      · exact wantF (j := 16) (b := true) (t := 19) (c := false) rfl rfl rfl rfl rfl
      try dsimp only [putL, setL, evL, getL]
      refine HL_skip ?_ ?_
      · exact wantF (j := 16) (b := true) (t := 19) (c := false) rfl rfl rfl rfl rfl
      try dsimp only [putL, setL, evL, getL]
      refine HL_skip ?_ ?_
      · exact wantF (j := 16) (b := true) (t := 19) (c := false) rfl rfl rfl rfl rfl
      try dsimp only [putL, setL, evL, getL]
      refine HL_skip ?_ ?_
      · exact wantF (j := 16) (b := true) (t := 19) (c := false) rfl rfl rfl rfl rfl
      try dsimp only [putL, setL, evL, getL]
      refine HL_cons rfl ?_
      refine o_pickF rfl rfl ?_
      try dsimp only [putL, setL, evL, getL]
      refine HL_cons rfl ?_
      refine o_move ?_
      try dsimp only [putL, setL, evL, getL]
      refine HL_skip ?_ ?_
      · exact wantF (j := 25) (b := true) (t := 28) (c := false) rfl rfl rfl rfl rfl
      try dsimp only [putL, setL, evL, getL]
      refine HL_skip ?_ ?_
      · exact wantF (j := 25) (b := true) (t := 28) (c := false) rfl rfl rfl rfl rfl
      try dsimp only [putL, setL, evL, getL]
      refine HL_skip ?_ ?_
      · exact wantF (j := 25) (b := true) (t := 28) (c := false) rfl rfl rfl rfl rfl
      try dsimp only [putL, setL, evL, getL]
      refine HL_cons rfl ?_
      refine o_pickF rfl rfl ?_
      try dsimp only [putL, setL, evL, getL]
      refine HL_cons rfl ?_
      refine o_move ?_
      try dsimp only [putL, setL, evL, getL]
      refine HL_skip ?_ ?_
      · exact wantF (j := 30) (b := true) (t := 33) (c := false) rfl rfl rfl rfl rfl
      try dsimp only [putL, setL, evL, getL]
      refine HL_skip ?_ ?_
      · exact wantF (j := 30) (b := true) (t := 33) (c := false) rfl rfl rfl rfl rfl
      try dsimp only [putL, setL, evL, getL]
      refine HL_skip ?_ ?_
      · exact wantF (j := 30) (b := true) (t := 33) (c := false) rfl rfl rfl rfl rfl
      try dsimp only [putL, setL, evL, getL]
      refine HL_cons rfl ?_
      refine o_pickF rfl rfl ?_
      try dsimp only [putL, setL, evL, getL]
      refine HL_cons rfl ?_
      refine o_assign ?_
      try dsimp only [putL, setL, evL, getL]
      refine HL_nil ?_
      refine hK3 _ _ ?_
      refine HT_ret ?_
      exact hQr _ _ [.bool false] ⟨rfl, trivial⟩ (retH (fun r => spec_GoodBuf.post sb s F0 r _ _) (show some _ = some r from H) ⟨rfl, hH.sel [] (by decide)⟩)
  · replace H := iteF hb5 H
    refine HL_skip ?_ ?_
    · exact wantF (j := 3) (b := true) (t := 6) (c := u4) rfl rfl rfl rfl hb5
    try dsimp only [putL, setL, evL, getL]
    refine HL_skip ?_ ?_
    · exact wantF (j := 3) (b := true) (t := 6) (c := u4) rfl rfl rfl rfl hb5
    try dsimp only [putL, setL, evL, getL]
    refine HL_skip ?_ ?_
    · exact wantF (j := 3) (b := true) (t := 6) (c := u4) rfl rfl rfl rfl hb5
    try dsimp only [putL, setL, evL, getL]
    refine HL_skip ?_ ?_
    · exact wantF (j := 3) (b := true) (t := 6) (c := u4) rfl rfl rfl rfl hb5
    try dsimp only [putL, setL, evL, getL]
    refine HL_skip ?_ ?_
    · exact wantF (j := 3) (b := true) (t := 6) (c := u4) rfl rfl rfl rfl hb5
    try dsimp only [putL, setL, evL, getL]
    refine HL_skip ?_ ?_
    · exact wantF (j := 3) (b := true) (t := 6) (c := u4) rfl rfl rfl rfl hb5
    try dsimp only [putL, setL, evL, getL]
    refine HL_cons rfl ?_
    refine o_pickF rfl hb5 ?_
    try dsimp only [putL, setL, evL, getL]
    refine HL_cons rfl ?_
    refine o_move ?_
    try dsimp only [putL, setL, evL, getL]
    refine HL_skip ?_ ?_
    · exact wantF (j := 11) (b := true) (t := 14) (c := false) rfl rfl rfl rfl rfl
    try dsimp only [putL, setL, evL, getL]
    refine HL_skip ?_ ?_
    · exact wantF (j := 11) (b := true) (t := 14) (c := false) rfl rfl rfl rfl rfl
    try dsimp only [putL, setL, evL, getL]
    refine HL_skip ?_ ?_
    · exact wantF (j := 11) (b := true) (t := 14) (c := false) rfl rfl rfl rfl rfl
    try dsimp only [putL, setL, evL, getL]
    refine HL_cons rfl ?_
    refine o_pickF rfl rfl ?_
    try dsimp only [putL, setL, evL, getL]
    refine HL_cons rfl ?_
    refine o_move ?_
    try dsimp only [putL, setL, evL, getL]
    refine HL_skip ?_ ?_
    · exact wantF (j := 16) (b := true) (t := 19) (c := false) rfl rfl rfl rfl rfl
    try dsimp only [putL, setL, evL, getL]
    refine HL_skip ?_ ?_
    · exact wantF (j := 16) (b := true) (t := 19) (c := false) rfl rfl rfl rfl rfl
    try dsimp only [putL, setL, evL, getL]
    refine HL_skip ?_ ?_
    · exact wantF (j := 16) (b := true) (t := 19) (c := false) rfl rfl rfl rfl rfl
    try dsimp only [putL, setL, evL, getL]
    refine HL_skip ?_ ?_
    · exact wantF (j := 16) (b := true) (t := 19) (c := false) rfl rfl rfl rfl rfl
    try dsimp only [putL, setL, evL, getL]
    refine HL_skip ?_ ?_
    · exact wantF (j := 16) (b := true) (t := 19) (c := false) rfl rfl rfl rfl rfl
    try dsimp only [putL, setL, evL, getL]
    refine HL_skip ?_ ?_
    · exact wantF (j := 16) (b := true) (t := 19) (c := false) rfl rfl rfl rfl rfl
    try dsimp only [putL, setL, evL, getL]
    refine HL_skip ?_ ?_
    · exact wantF (j := 16) (b := true) (t := 19) (c := false) rfl rfl rfl rfl rfl
    try dsimp only [putL, setL, evL, getL]
    refine HL_cons rfl ?_
    refine o_pickF rfl rfl ?_
    try dsimp only [putL, setL, evL, getL]
    refine HL_cons rfl ?_
    refine o_move ?_
    try dsimp only [putL, setL, evL, getL]
    refine HL_skip ?_ ?_
    · exact wantF (j := 25) (b := true) (t := 28) (c := false) rfl rfl rfl rfl rfl
    try dsimp only [putL, setL, evL, getL]
    refine HL_skip ?_ ?_
    · exact wantF (j := 25) (b := true) (t := 28) (c := false) rfl rfl rfl rfl rfl
    try dsimp only [putL, setL, evL, getL]
    refine HL_skip ?_ ?_
    · exact wantF (j := 25) (b := true) (t := 28) (c := false) rfl rfl rfl rfl rfl
    try dsimp only [putL, setL, evL, getL]
    refine HL_cons rfl ?_
    refine o_pickF rfl rfl ?_
    try dsimp only [putL, setL, evL, getL]
    refine HL_cons rfl ?_
    refine o_move ?_
    try dsimp only [putL, setL, evL, getL]
    refine HL_skip ?_ ?_
    · exact wantF (j := 30) (b := true) (t := 33) (c := false) rfl rfl rfl rfl rfl
    try dsimp only [putL, setL, evL, getL]
    refine HL_skip ?_ ?_
    · exact wantF (j := 30) (b := true) (t := 33) (c := false) rfl rfl rfl rfl rfl
    try dsimp only [putL, setL, evL, getL]
    refine HL_skip ?_ ?_
    · exact wantF (j := 30) (b := true) (t := 33) (c := false) rfl rfl rfl rfl rfl
    try dsimp only [putL, setL, evL, getL]
    refine HL_cons rfl ?_
    refine o_pickF rfl rfl ?_
    try dsimp only [putL, setL, evL, getL]
    refine HL_cons rfl ?_
    refine o_assign ?_
    try dsimp only [putL, setL, evL, getL]
    refine HL_nil ?_
    refine hK3 _ _ ?_
    refine HT_ret ?_
    exact hQr _ _ [.bool false] ⟨rfl, trivial⟩ (retH (fun r => spec_GoodBuf.post sb s F0 r _ _) (show some _ = some r from H) ⟨rfl, hH.sel [] (by decide)⟩)
def spec_l1Own.f (p0 : List (Int)) : Option (List (Int)) := (app? 17592186044416 ([] : List (Int)) p0).bind fun x4 => some x4
def spec_l1Own.post (sb s : St) (F0 : Fp) (r : (List (Int))) : Value → St → Prop := fun v s' => ∃ (A0 : Option Addr) (c0 : Nat), v = .slice A0 r.length c0 ∧ Hp sb s F0 s' [Ck.ol OI 3 A0 c0 r]
set_option maxRecDepth 100000 in
set_option maxHeartbeats 4000000 in
theorem spec_l1Own.ok (sb s : St) (F0 : Fp) (A0p : Option Addr) (c0p : Nat) (p0 : List (Int)) (HRp0 : Rd KI sb A0p c0p p0) (hH : Hp sb s F0 s []) (r : (List (Int))) (H : spec_l1Own.f p0 = some r) : GCall Try.prog 144 #[.slice A0p p0.length c0p] s (spec_l1Own.post sb s F0 r) := by
  refine GCall_ofk [.tmp 2] [.slice A0p p0.length c0p, undef, undef, undef, undef, undef] Try.func144 rfl rfl rfl ?_
  intro w Q hQr hQn hQp
  replace H := topE H
  unfold spec_l1Own.f at H
  refine HT_seq_k ?_
  intro K1 hK1
  refine HT_region ?_
  refine HL_cons rfl ?_
  refine o_assign ?_
  try dsimp only [putL, setL, evL, getL]
  refine HL_nil ?_
  refine hK1 _ _ ?_
  refine HT_seq_k ?_
  intro K2 hK2
  refine HT_region ?_
  refine HL_cons rfl ?_
  refine o_lit0H (α := Int) (K := KI) (O := OI) hH Try.underlying24 tI3 ?_
  intro A3 s3 hH' hG
  replace hH : Hp sb s F0 s3 [Ck.ol OI 3 A3 0 ([] : List (Int))] := hH'
  clear hH' hG
  try dsimp only [putL, setL, evL, getL]
  refine HL_cons rfl ?_
  refine o_move ?_
  try dsimp only [putL, setL, evL, getL]
  replace H := headE H
  obtain ⟨x4, hx4, H⟩ := H
  refine HL_cons rfl ?_
  refine o_appF (K := KI) (n := 17592186044416) (A := A3) (c := 0) (xs := ([] : List (Int))) (ys := p0) (B := A0p) (c2 := c0p) hH 0 rfl rfl rfl rfl Try.underlying24 tI3 rfl (by decide) (by decide) (by decide) (Src.flat (HRp0.mono hH.bs.mono)) hx4 ?_
  intro A4 c4 s4 hH'
  replace hH : Hp sb s F0 s4 [Ck.ol OI 3 A4 c4 x4] := hH'
  clear hH'
  try dsimp only [putL, setL, evL, getL]
  refine HL_cons rfl ?_
  refine o_assign ?_
  try dsimp only [putL, setL, evL, getL]
  refine HL_nil ?_
  refine hK2 _ _ ?_
  refine HT_ret ?_
  exact hQr _ _ [.slice A4 x4.length c4] ⟨rfl, trivial⟩ (retH (fun r => spec_l1Own.post sb s F0 r _ _) (show some _ = some r from H) ⟨A4, c4, rfl, hH⟩)
def spec_l1Most.f (p0 : Int) (p1 : Int) : Option Int := if (decide (p0 > p1)) = true then (some p0) else (some p1)
def spec_l1Most.post (sb s : St) (F0 : Fp) (r : Int) : Value → St → Prop := fun v s' => v = .int .i64 r ∧ Hp sb s F0 s' []
set_option maxRecDepth 100000 in
set_option maxHeartbeats 4000000 in
theorem spec_l1Most.ok (sb s : St) (F0 : Fp) (p0 : Int) (p1 : Int) (hH : Hp sb s F0 s []) (r : Int) (H : spec_l1Most.f p0 p1 = some r) : GCall Try.prog 187 #[.int .i64 p0, .int .i64 p1] s (spec_l1Most.post sb s F0 r) := by
  refine GCall_ofk [.tmp 4] [.int .i64 p0, .int .i64 p1, undef, undef, undef, undef, undef, undef, undef, undef] Try.func187 rfl rfl rfl ?_
  intro w Q hQr hQn hQp
  replace H := topE H
  unfold spec_l1Most.f at H
  refine HT_seq_k ?_
  intro K1 hK1
  refine HT_region ?_
  refine HL_cons rfl ?_
  refine o_assign ?_
  try dsimp only [putL, setL, evL, getL]
  refine HL_nil ?_
  refine hK1 _ _ ?_
  refine HT_seq_k ?_
  intro K2 hK2
  refine HT_seq_k ?_
  intro K3 hK3
  refine HT_region ?_
  refine HL_cons rfl ?_
  refine o_move ?_
  try dsimp only [putL, setL, evL, getL]
  refine HL_cons rfl ?_
  refine o_move ?_
  try dsimp only [putL, setL, evL, getL]
  refine HL_cons rfl ?_
  refine o_bin rfl rfl rfl ?_
  try dsimp only [putL, setL, evL, getL]
  refine HL_nil ?_
  refine hK3 _ _ ?_
  rcases Bool.eq_false_or_eq_true (decide (p0 > p1)) with hb4 | hb4
  · replace H := iteT hb4 H
    refine HT_true (congrArg Value.bool hb4) ?_
    refine HT_seq_k ?_
    intro K5 hK5
    refine HT_region ?_
    refine HL_cons rfl ?_
    refine o_move ?_
    try dsimp only [putL, setL, evL, getL]
    refine HL_cons rfl ?_
    refine o_assign ?_
    try dsimp only [putL, setL, evL, getL]
    refine HL_nil ?_
    refine hK5 _ _ ?_
    refine HT_ret ?_
    exact hQr _ _ [.int .i64 p0] ⟨rfl, trivial⟩ (retH (fun r => spec_l1Most.post sb s F0 r _ _) (show some _ = some r from H) ⟨rfl, hH⟩)
  · replace H := iteF hb4 H
    refine HT_false (congrArg Value.bool hb4) ?_
    refine HT_skip ?_
    refine hK2 _ _ ?_
    refine HT_seq_k ?_
    intro K6 hK6
    refine HT_region ?_
    refine HL_cons rfl ?_
    refine o_move ?_
    try dsimp only [putL, setL, evL, getL]
    refine HL_cons rfl ?_
    refine o_assign ?_
    try dsimp only [putL, setL, evL, getL]
    refine HL_nil ?_
    refine hK6 _ _ ?_
    refine HT_ret ?_
    exact hQr _ _ [.int .i64 p1] ⟨rfl, trivial⟩ (retH (fun r => spec_l1Most.post sb s F0 r _ _) (show some _ = some r from H) ⟨rfl, hH⟩)
end Go.Proofs.Ytkieinlcpkpcjaa
