/- The functions that the law reaches, as plain functions, each with its contract: printed by a program of the prover's. No conditions: lemmas. -/
import Derived.Test.YtkieinlcpkpcjaaWLBuffer1
set_option linter.unusedVariables false
set_option linter.unusedSimpArgs false
namespace Go.Proofs.Ytkieinlcpkpcjaa
open Go Go.Proofs.GL
def spec_l10Drop.l1 (x49 : List (Int)) : Nat → Int → Int → Option Int
  | 0, _, _ => none
  | kf + 1, x85, x86 => if (decide (x85 < (x49.length : Int))) = true then ((rd? x49 x85).bind fun u102 => spec_l10Drop.l1 x49 kf (IntKind.i64.wrap (x85 + 1)) (IntKind.i64.wrap (x86 + u102))) else (some x86)
def spec_l10Drop.f (p0_0 : Int) (p0_1 : List (Int)) (p0_2 : List (Int)) (p0_3 : Int) (p1 : Int) : Option (Int × (List (Int)) × (List (Int)) × Int × (List (Int))) := ((cut? p0_1 p1 (p0_1.length : Int)).bind fun x28 => (cut? p0_2 p1 (p0_2.length : Int)).bind fun x29 => (spec_l1Own.f x28).bind fun u30 => (spec_l1Own.f x29).bind fun u32 => some (p0_0, u30, u32, p0_3)).bind fun (o : Int × (List (Int)) × (List (Int)) × Int) => match o with | (x24, x25, x26, x27) => ((cut? p0_2 0 p1).bind fun x49 => (spec_l10Drop.l1 x49 ((((x49.length : Int)) - (0)).toNat + 2) 0 x27).bind fun (o : Int) => match o with | x77 => ((cut? p0_1 0 p1).bind fun x106 => (spec_l1Own.f x106).bind fun u107 => some (x24, x25, x26, x77, u107)))
def spec_l10Drop.post (sb s : St) (F0 : Fp) (r : Int × (List (Int)) × (List (Int)) × Int × (List (Int))) : Value → St → Prop := fun v s' => ∃ (A1 : Option Addr) (c1 : Nat) (A2 : Option Addr) (c2 : Nat) (A4 : Option Addr) (c4 : Nat), v = .tuple #[.agg #[.int .i64 r.1, .slice A1 r.2.1.length c1, .slice A2 r.2.2.1.length c2, .int .i64 r.2.2.2.1], .slice A4 r.2.2.2.2.length c4] ∧ Hp sb s F0 s' [Ck.ol OI 3 A1 c1 r.2.1, Ck.ol OI 3 A2 c2 r.2.2.1, Ck.ol OI 3 A4 c4 r.2.2.2.2]
set_option maxRecDepth 100000 in
set_option maxHeartbeats 4000000 in
theorem spec_l10Drop.ok (sb s : St) (F0 : Fp) (p0_0 : Int) (A0_1p : Option Addr) (c0_1p : Nat) (p0_1 : List (Int)) (A0_2p : Option Addr) (c0_2p : Nat) (p0_2 : List (Int)) (p0_3 : Int) (p1 : Int) (HRp0_1 : Rd KI sb A0_1p c0_1p p0_1) (HRp0_2 : Rd KI sb A0_2p c0_2p p0_2) (hH : Hp sb s F0 s []) (r : Int × (List (Int)) × (List (Int)) × Int × (List (Int))) (H : spec_l10Drop.f p0_0 p0_1 p0_2 p0_3 p1 = some r) : GCall Try.prog 124 #[.agg #[.int .i64 p0_0, .slice A0_1p p0_1.length c0_1p, .slice A0_2p p0_2.length c0_2p, .int .i64 p0_3], .int .i64 p1] s (spec_l10Drop.post sb s F0 r) := by
  refine GCall_ofk [.cell 4 37, .tmp 5] [.agg #[.int .i64 p0_0, .slice A0_1p p0_1.length c0_1p, .slice A0_2p p0_2.length c0_2p, .int .i64 p0_3], .int .i64 p1, undef, undef, undef, undef, undef, undef, undef, undef, undef, undef, undef, undef, undef, undef, undef, undef, undef, undef, undef, undef, undef, undef, undef, undef, undef, undef, undef, undef, undef, undef, undef, undef, undef, undef, undef, undef, undef, undef, undef, undef, undef, undef, undef] Try.func124 rfl rfl rfl ?_
  intro w Q hQr hQn hQp
  replace H := topE H
  unfold spec_l10Drop.f at H
  refine HT_seq_k ?_
  intro K1 hK1
  refine HT_region ?_
  refine HL_cons rfl ?_
  refine o_boxH hH rfl ?_
  intro b2 s2 hH' hG
  replace hH : Hp sb s F0 s2 [Ck.ov b2 [.int .i64 p0_0, .slice A0_1p p0_1.length c0_1p, .slice A0_2p p0_2.length c0_2p, .int .i64 p0_3] 37] := hH'
  clear hH' hG
  try dsimp only [putL, setL, evL, getL]
  refine HL_cons rfl ?_
  refine o_allocH hH tI37 ?_
  intro b3 s3 hH' hG
  replace hH : Hp sb s F0 s3 [Ck.ov b2 [.int .i64 p0_0, .slice A0_1p p0_1.length c0_1p, .slice A0_2p p0_2.length c0_2p, .int .i64 p0_3] 37, Ck.ov b3 [.int .i64 0, .slice none 0 0, .slice none 0 0, .int .i64 0] 37] := hH'
  clear hH' hG
  try dsimp only [putL, setL, evL, getL]
  refine HL_cons rfl ?_
  refine o_assign ?_
  try dsimp only [putL, setL, evL, getL]
  refine HL_nil ?_
  refine hK1 _ _ ?_
  refine joinH H fun G4 hG4 H => ?_
  refine HT_joinK (fun l' s' => ∃ (b23 : Nat) (x24 : Int) (x25 : List (Int)) (A25 : Option Addr) (c25 : Nat) (x26 : List (Int)) (A26 : Option Addr) (c26 : Nat) (x27 : Int), G4 (x24, x25, x26, x27) = some r ∧ l' = [.agg #[.int .i64 p0_0, .slice A0_1p p0_1.length c0_1p, .slice A0_2p p0_2.length c0_2p, .int .i64 p0_3], .int .i64 p1, .pointer (some ⟨b2, 0, none⟩), undef, .pointer (some ⟨b3, 0, none⟩), .slice none 0 0, .pointer (some ⟨b23, 0, none⟩), undef, undef, getL l' 9, getL l' 10, getL l' 11, getL l' 12, getL l' 13, getL l' 14, getL l' 15, getL l' 16, getL l' 17, getL l' 18, getL l' 19, getL l' 20, getL l' 21, getL l' 22, getL l' 23, undef, undef, undef, undef, undef, undef, undef, undef, undef, undef, undef, undef, undef, undef, undef, undef, undef, undef, undef, undef, undef] ∧ Hp sb s F0 s' [Ck.ol OI 3 A25 c25 x25, Ck.ol OI 3 A26 c26 x26, Ck.ov b2 [.int .i64 p0_0, .slice A0_1p p0_1.length c0_1p, .slice A0_2p p0_2.length c0_2p, .int .i64 p0_3] 37, Ck.ov b3 [.int .i64 0, .slice none 0 0, .slice none 0 0, .int .i64 0] 37, Ck.ov b23 [.int .i64 x24, .slice A25 x25.length c25, .slice A26 x26.length c26, .int .i64 x27] 37]) ?_ ?_
  · intro K4 hK4
    refine HX_draw hMix ?_
    refine HX_lim (R := fun _ => True) (k := 0) (fun s' => Gro s3 s') 16 ?_
    have hR := Gro.refl s3
    have hH0 := hH
    refine HK_readP 0 (v := .pointer (some ⟨b2, 0 + 0, none⟩)) rfl (by kernel_rfl) (fun c l s h => hQp c l s h) rfl (fun s' K hK => ?_) rfl rfl (fun _ => hR) ?_
    · refine o_faddr' (ft := 3) (off := 0) rfl Try.underlying37 rfl tI3 (by decide) ?_
      exact hK
    try dsimp only [putL, setL, evL, getL]
    refine HK_read 1 (v := .int .i64 p0_0) rfl (by kernel_rfl) (fun c l s h => hQp c l s h) rfl (fun s' hR' K hK => ?_) rfl rfl hR ?_
    · refine o_load' rfl Try.underlying3 rfl (has_gro hR' (hH0.hasv 0 rfl rfl)) ?_
      exact hK
    try dsimp only [putL, setL, evL, getL]
    refine HK_readP 2 (v := .pointer (some ⟨b2, 0 + 1, none⟩)) rfl (by kernel_rfl) (fun c l s h => hQp c l s h) rfl (fun s' K hK => ?_) rfl rfl (fun _ => hR) ?_
    · refine o_faddr' (ft := 24) (off := 1) rfl Try.underlying37 rfl tI24 (by decide) ?_
      exact hK
    try dsimp only [putL, setL, evL, getL]
    refine HK_read 3 (v := .slice A0_1p p0_1.length c0_1p) rfl (by kernel_rfl) (fun c l s h => hQp c l s h) rfl (fun s' hR' K hK => ?_) rfl rfl hR ?_
    · refine o_load' rfl Try.underlying24 rfl (has_gro hR' (hH0.hasv 0 rfl rfl)) ?_
      exact hK
    try dsimp only [putL, setL, evL, getL]
    refine HK_readP 4 (v := .int .i64 p1) rfl (by kernel_rfl) (fun c l s h => hQp c l s h) rfl (fun s' K hK => ?_) rfl rfl (fun _ => hR) ?_
    · refine o_move ?_
      exact hK
    try dsimp only [putL, setL, evL, getL]
    replace H := headE H
    obtain ⟨x28, hx28, H⟩ := H
    refine HK_readP 5 (v := .slice (cutA A0_1p c0_1p (Int.toNat p1) (Kd.sz KI)) x28.length (c0_1p - Int.toNat p1)) rfl (by kernel_rfl) (fun c l s h => hQp c l s h) rfl (fun s' K hK => ?_) rfl rfl (fun _ => hR) ?_
    · refine o_cutA (xs := p0_1) (kl := .i64) (kh := .i64) (L := p1) (H := (p0_1.length : Int)) rfl rfl rfl Try.underlying24 tI3 HRp0_1.1 hx28 ?_
      exact hK
    have D28 := HRp0_1.cut hx28
    try dsimp only [putL, setL, evL, getL]
    refine HK_readP 7 (v := .pointer (some ⟨b2, 0 + 2, none⟩)) rfl (by kernel_rfl) (fun c l s h => hQp c l s h) rfl (fun s' K hK => ?_) rfl rfl (fun _ => hR) ?_
    · refine o_faddr' (ft := 24) (off := 2) rfl Try.underlying37 rfl tI24 (by decide) ?_
      exact hK
    try dsimp only [putL, setL, evL, getL]
    refine HK_read 8 (v := .slice A0_2p p0_2.length c0_2p) rfl (by kernel_rfl) (fun c l s h => hQp c l s h) rfl (fun s' hR' K hK => ?_) rfl rfl hR ?_
    · refine o_load' rfl Try.underlying24 rfl (has_gro hR' (hH0.hasv 0 rfl rfl)) ?_
      exact hK
    try dsimp only [putL, setL, evL, getL]
    refine HK_readP 9 (v := .int .i64 p1) rfl (by kernel_rfl) (fun c l s h => hQp c l s h) rfl (fun s' K hK => ?_) rfl rfl (fun _ => hR) ?_
    · refine o_move ?_
      exact hK
    try dsimp only [putL, setL, evL, getL]
    replace H := headE H
    obtain ⟨x29, hx29, H⟩ := H
    refine HK_readP 10 (v := .slice (cutA A0_2p c0_2p (Int.toNat p1) (Kd.sz KI)) x29.length (c0_2p - Int.toNat p1)) rfl (by kernel_rfl) (fun c l s h => hQp c l s h) rfl (fun s' K hK => ?_) rfl rfl (fun _ => hR) ?_
    · refine o_cutA (xs := p0_2) (kl := .i64) (kh := .i64) (L := p1) (H := (p0_2.length : Int)) rfl rfl rfl Try.underlying24 tI3 HRp0_2.1 hx29 ?_
      exact hK
    have D29 := HRp0_2.cut hx29
    try dsimp only [putL, setL, evL, getL]
    refine HK_readP 12 (v := .pointer (some ⟨b2, 0 + 3, none⟩)) rfl (by kernel_rfl) (fun c l s h => hQp c l s h) rfl (fun s' K hK => ?_) rfl rfl (fun _ => hR) ?_
    · refine o_faddr' (ft := 3) (off := 3) rfl Try.underlying37 rfl tI3 (by decide) ?_
      exact hK
    try dsimp only [putL, setL, evL, getL]
    refine HK_read 13 (v := .int .i64 p0_3) rfl (by kernel_rfl) (fun c l s h => hQp c l s h) rfl (fun s' hR' K hK => ?_) rfl rfl hR ?_
    · refine o_load' rfl Try.underlying3 rfl (has_gro hR' (hH0.hasv 0 rfl rfl)) ?_
      exact hK
    try dsimp only [putL, setL, evL, getL]
    refine HK_more [6, 15] (by kernel_rfl) rfl (fun _ => hR) ⟨⟨_, rfl, Or.inl ⟨rfl, ?_⟩⟩, ⟨_, rfl, Or.inl ⟨rfl, ?_⟩⟩, trivial⟩
    · replace H := headE H
      obtain ⟨u30, hu30, H⟩ := H
      skip
      refine o_call (args := #[.slice (cutA A0_1p c0_1p (Int.toNat p1) (Kd.sz KI)) x28.length (c0_1p - Int.toNat p1)]) Try.func144 rfl rfl rfl (spec_l1Own.ok sb s3 no (cutA A0_1p c0_1p (Int.toNat p1) (Kd.sz KI)) (c0_1p - Int.toNat p1) x28 D28 (Hp.own hH.bs) _ hu30) ?_
      rintro _ s30 ⟨A31, c31, rfl, hD⟩
      replace hR := hR.trans hD.gro
      replace hH := hH.back0 hD (Up.refl _ _ _)
      clear hD
      dsimp only [addC, setC, rmC, selC, getC] at hH
      try dsimp only [putL, setL, evL, getL]
      refine HK_more [11, 15] (by kernel_rfl) rfl (fun _ => hR) ⟨⟨_, rfl, Or.inl ⟨rfl, ?_⟩⟩, ⟨_, rfl, Or.inl ⟨rfl, ?_⟩⟩, trivial⟩
      · replace H := headE H
        obtain ⟨u32, hu32, H⟩ := H
        skip
        refine o_call (args := #[.slice (cutA A0_2p c0_2p (Int.toNat p1) (Kd.sz KI)) x29.length (c0_2p - Int.toNat p1)]) Try.func144 rfl rfl rfl (spec_l1Own.ok sb s30 no (cutA A0_2p c0_2p (Int.toNat p1) (Kd.sz KI)) (c0_2p - Int.toNat p1) x29 D29 (Hp.own hH.bs) _ hu32) ?_
        rintro _ s32 ⟨A33, c33, rfl, hD⟩
        replace hR := hR.trans hD.gro
        replace hH := hH.back0 hD (Up.refl _ _ _)
        clear hD
        dsimp only [addC, setC, rmC, selC, getC] at hH
        try dsimp only [putL, setL, evL, getL]
        refine HK_readP 14 (v := .agg #[.int .i64 p0_0, .slice A31 u30.length c31, .slice A33 u32.length c33, .int .i64 p0_3]) rfl (by kernel_rfl) (fun c l s h => hQp c l s h) rfl (fun s' K hK => ?_) rfl rfl (fun _ => hR) ?_
        · refine o_build (pl := [(0, 1), (1, 1), (2, 1), (3, 1)]) (cs := #[.int .i64 p0_0, .slice A31 u30.length c31, .slice A33 u32.length c33, .int .i64 p0_3]) Try.underlying37 tI37 (by kernel_rfl) (by kernel_rfl) rfl ?_
          exact hK
        try dsimp only [putL, setL, evL, getL]
        refine HK_more [15] (by kernel_rfl) rfl (fun _ => hR) ⟨⟨_, rfl, Or.inl ⟨rfl, ?_⟩⟩, trivial⟩
        skip
        refine o_allocH hH tI37 ?_
        intro b34 s34 hH' hG
        replace hR := hR.trans hG
        replace hH : Hp sb s F0 s34 [Ck.ov b2 [.int .i64 p0_0, .slice A0_1p p0_1.length c0_1p, .slice A0_2p p0_2.length c0_2p, .int .i64 p0_3] 37, Ck.ov b3 [.int .i64 0, .slice none 0 0, .slice none 0 0, .int .i64 0] 37, Ck.ol OI 3 A31 c31 u30, Ck.ol OI 3 A33 c33 u32, Ck.ov b34 [.int .i64 0, .slice none 0 0, .slice none 0 0, .int .i64 0] 37] := hH'
        clear hH' hG
        try dsimp only [putL, setL, evL, getL]
        refine HK_more [16] (by kernel_rfl) rfl (fun _ => hR) ⟨⟨_, rfl, Or.inl ⟨rfl, ?_⟩⟩, trivial⟩
        skip
        refine o_stvH (vs := [.int .i64 p0_0, .slice A31 u30.length c31, .slice A33 u32.length c33, .int .i64 p0_3]) (us' := [.int .i64 p0_0, .slice A31 u30.length c31, .slice A33 u32.length c33, .int .i64 p0_3]) hH 4 rfl rfl rfl rfl rfl tI37 rfl (List.cons_ne_nil _ _) rfl rfl rfl ?_
        intro s35 hH'
        replace hH : Hp sb s F0 s35 [Ck.ov b2 [.int .i64 p0_0, .slice A0_1p p0_1.length c0_1p, .slice A0_2p p0_2.length c0_2p, .int .i64 p0_3] 37, Ck.ov b3 [.int .i64 0, .slice none 0 0, .slice none 0 0, .int .i64 0] 37, Ck.ol OI 3 A31 c31 u30, Ck.ol OI 3 A33 c33 u32, Ck.ov b34 [.int .i64 p0_0, .slice A31 u30.length c31, .slice A33 u32.length c33, .int .i64 p0_3] 37] := hH'
        clear hH'
        try dsimp only [putL, setL, evL, getL]
        refine HK_free (by kernel_rfl) ?_
        refine HX_done (by kernel_rfl) ?_
        exact hK4 _ _ ⟨b34, p0_0, u30, A31, c31, u32, A33, c33, p0_3, H, rfl, hH.sel [2, 3, 0, 1, 4] (by decide)⟩
      · skip
        refine o_allocH hH tI37 ?_
        intro b36 s36 hH' hG
        replace hR := hR.trans hG
        replace hH : Hp sb s F0 s36 [Ck.ov b2 [.int .i64 p0_0, .slice A0_1p p0_1.length c0_1p, .slice A0_2p p0_2.length c0_2p, .int .i64 p0_3] 37, Ck.ov b3 [.int .i64 0, .slice none 0 0, .slice none 0 0, .int .i64 0] 37, Ck.ol OI 3 A31 c31 u30, Ck.ov b36 [.int .i64 0, .slice none 0 0, .slice none 0 0, .int .i64 0] 37] := hH'
        clear hH' hG
        try dsimp only [putL, setL, evL, getL]
        refine HK_more [11] (by kernel_rfl) rfl (fun _ => hR) ⟨⟨_, rfl, Or.inl ⟨rfl, ?_⟩⟩, trivial⟩
        replace H := headE H
        obtain ⟨u37, hu37, H⟩ := H
        skip
        refine o_call (args := #[.slice (cutA A0_2p c0_2p (Int.toNat p1) (Kd.sz KI)) x29.length (c0_2p - Int.toNat p1)]) Try.func144 rfl rfl rfl (spec_l1Own.ok sb s36 no (cutA A0_2p c0_2p (Int.toNat p1) (Kd.sz KI)) (c0_2p - Int.toNat p1) x29 D29 (Hp.own hH.bs) _ hu37) ?_
        rintro _ s37 ⟨A38, c38, rfl, hD⟩
        replace hR := hR.trans hD.gro
        replace hH := hH.back0 hD (Up.refl _ _ _)
        clear hD
        dsimp only [addC, setC, rmC, selC, getC] at hH
        try dsimp only [putL, setL, evL, getL]
        refine HK_readP 14 (v := .agg #[.int .i64 p0_0, .slice A31 u30.length c31, .slice A38 u37.length c38, .int .i64 p0_3]) rfl (by kernel_rfl) (fun c l s h => hQp c l s h) rfl (fun s' K hK => ?_) rfl rfl (fun _ => hR) ?_
        · refine o_build (pl := [(0, 1), (1, 1), (2, 1), (3, 1)]) (cs := #[.int .i64 p0_0, .slice A31 u30.length c31, .slice A38 u37.length c38, .int .i64 p0_3]) Try.underlying37 tI37 (by kernel_rfl) (by kernel_rfl) rfl ?_
          exact hK
        try dsimp only [putL, setL, evL, getL]
        refine HK_more [16] (by kernel_rfl) rfl (fun _ => hR) ⟨⟨_, rfl, Or.inl ⟨rfl, ?_⟩⟩, trivial⟩
        skip
        refine o_stvH (vs := [.int .i64 p0_0, .slice A31 u30.length c31, .slice A38 u37.length c38, .int .i64 p0_3]) (us' := [.int .i64 p0_0, .slice A31 u30.length c31, .slice A38 u37.length c38, .int .i64 p0_3]) hH 3 rfl rfl rfl rfl rfl tI37 rfl (List.cons_ne_nil _ _) rfl rfl rfl ?_
        intro s39 hH'
        replace hH : Hp sb s F0 s39 [Ck.ov b2 [.int .i64 p0_0, .slice A0_1p p0_1.length c0_1p, .slice A0_2p p0_2.length c0_2p, .int .i64 p0_3] 37, Ck.ov b3 [.int .i64 0, .slice none 0 0, .slice none 0 0, .int .i64 0] 37, Ck.ol OI 3 A31 c31 u30, Ck.ov b36 [.int .i64 p0_0, .slice A31 u30.length c31, .slice A38 u37.length c38, .int .i64 p0_3] 37, Ck.ol OI 3 A38 c38 u37] := hH'
        clear hH'
        try dsimp only [putL, setL, evL, getL]
        refine HK_free (by kernel_rfl) ?_
        refine HX_done (by kernel_rfl) ?_
        exact hK4 _ _ ⟨b36, p0_0, u30, A31, c31, u37, A38, c38, p0_3, H, rfl, hH.sel [2, 4, 0, 1, 3] (by decide)⟩
    · skip
      refine o_allocH hH tI37 ?_
      intro b40 s40 hH' hG
      replace hR := hR.trans hG
      replace hH : Hp sb s F0 s40 [Ck.ov b2 [.int .i64 p0_0, .slice A0_1p p0_1.length c0_1p, .slice A0_2p p0_2.length c0_2p, .int .i64 p0_3] 37, Ck.ov b3 [.int .i64 0, .slice none 0 0, .slice none 0 0, .int .i64 0] 37, Ck.ov b40 [.int .i64 0, .slice none 0 0, .slice none 0 0, .int .i64 0] 37] := hH'
      clear hH' hG
      try dsimp only [putL, setL, evL, getL]
      refine HK_more [6] (by kernel_rfl) rfl (fun _ => hR) ⟨⟨_, rfl, Or.inl ⟨rfl, ?_⟩⟩, trivial⟩
      replace H := headE H
      obtain ⟨u41, hu41, H⟩ := H
      skip
      refine o_call (args := #[.slice (cutA A0_1p c0_1p (Int.toNat p1) (Kd.sz KI)) x28.length (c0_1p - Int.toNat p1)]) Try.func144 rfl rfl rfl (spec_l1Own.ok sb s40 no (cutA A0_1p c0_1p (Int.toNat p1) (Kd.sz KI)) (c0_1p - Int.toNat p1) x28 D28 (Hp.own hH.bs) _ hu41) ?_
      rintro _ s41 ⟨A42, c42, rfl, hD⟩
      replace hR := hR.trans hD.gro
      replace hH := hH.back0 hD (Up.refl _ _ _)
      clear hD
      dsimp only [addC, setC, rmC, selC, getC] at hH
      try dsimp only [putL, setL, evL, getL]
      refine HK_more [11] (by kernel_rfl) rfl (fun _ => hR) ⟨⟨_, rfl, Or.inl ⟨rfl, ?_⟩⟩, trivial⟩
      replace H := headE H
      obtain ⟨u43, hu43, H⟩ := H
      skip
      refine o_call (args := #[.slice (cutA A0_2p c0_2p (Int.toNat p1) (Kd.sz KI)) x29.length (c0_2p - Int.toNat p1)]) Try.func144 rfl rfl rfl (spec_l1Own.ok sb s41 no (cutA A0_2p c0_2p (Int.toNat p1) (Kd.sz KI)) (c0_2p - Int.toNat p1) x29 D29 (Hp.own hH.bs) _ hu43) ?_
      rintro _ s43 ⟨A44, c44, rfl, hD⟩
      replace hR := hR.trans hD.gro
      replace hH := hH.back0 hD (Up.refl _ _ _)
      clear hD
      dsimp only [addC, setC, rmC, selC, getC] at hH
      try dsimp only [putL, setL, evL, getL]
      refine HK_readP 14 (v := .agg #[.int .i64 p0_0, .slice A42 u41.length c42, .slice A44 u43.length c44, .int .i64 p0_3]) rfl (by kernel_rfl) (fun c l s h => hQp c l s h) rfl (fun s' K hK => ?_) rfl rfl (fun _ => hR) ?_
      · refine o_build (pl := [(0, 1), (1, 1), (2, 1), (3, 1)]) (cs := #[.int .i64 p0_0, .slice A42 u41.length c42, .slice A44 u43.length c44, .int .i64 p0_3]) Try.underlying37 tI37 (by kernel_rfl) (by kernel_rfl) rfl ?_
        exact hK
      try dsimp only [putL, setL, evL, getL]
      refine HK_more [16] (by kernel_rfl) rfl (fun _ => hR) ⟨⟨_, rfl, Or.inl ⟨rfl, ?_⟩⟩, trivial⟩
      skip
      refine o_stvH (vs := [.int .i64 p0_0, .slice A42 u41.length c42, .slice A44 u43.length c44, .int .i64 p0_3]) (us' := [.int .i64 p0_0, .slice A42 u41.length c42, .slice A44 u43.length c44, .int .i64 p0_3]) hH 2 rfl rfl rfl rfl rfl tI37 rfl (List.cons_ne_nil _ _) rfl rfl rfl ?_
      intro s45 hH'
      replace hH : Hp sb s F0 s45 [Ck.ov b2 [.int .i64 p0_0, .slice A0_1p p0_1.length c0_1p, .slice A0_2p p0_2.length c0_2p, .int .i64 p0_3] 37, Ck.ov b3 [.int .i64 0, .slice none 0 0, .slice none 0 0, .int .i64 0] 37, Ck.ov b40 [.int .i64 p0_0, .slice A42 u41.length c42, .slice A44 u43.length c44, .int .i64 p0_3] 37, Ck.ol OI 3 A42 c42 u41, Ck.ol OI 3 A44 c44 u43] := hH'
      clear hH'
      try dsimp only [putL, setL, evL, getL]
      refine HK_free (by kernel_rfl) ?_
      refine HX_done (by kernel_rfl) ?_
      exact hK4 _ _ ⟨b40, p0_0, u41, A42, c42, u43, A44, c44, p0_3, H, rfl, hH.sel [3, 4, 0, 1, 2] (by decide)⟩
  · rintro l' s46 ⟨b23, x24, x25, A25, c25, x26, A26, c26, x27, H, hl, hH⟩
    generalize getL l' 9 = j9, getL l' 10 = j10, getL l' 11 = j11, getL l' 12 = j12, getL l' 13 = j13, getL l' 14 = j14, getL l' 15 = j15, getL l' 16 = j16, getL l' 17 = j17, getL l' 18 = j18, getL l' 19 = j19, getL l' 20 = j20, getL l' 21 = j21, getL l' 22 = j22, getL l' 23 = j23 at hl
    subst hl
    replace H := hG4 _ H
    try dsimp only at H
    refine HT_seq_k ?_
    intro K47 hK47
    refine HT_seq_k ?_
    intro K48 hK48
    refine HT_region ?_
    refine HL_cons rfl ?_
    refine o_faddr' (ft := 24) (off := 2) rfl Try.underlying37 rfl tI24 (by decide) ?_
    try dsimp only [putL, setL, evL, getL]
    refine HL_cons rfl ?_
    refine o_load' rfl Try.underlying24 rfl (hH.hasv 2 rfl rfl) ?_
    try dsimp only [putL, setL, evL, getL]
    refine HL_cons rfl ?_
    refine o_move ?_
    try dsimp only [putL, setL, evL, getL]
    replace H := headE H
    obtain ⟨x49, hx49, H⟩ := H
    refine HL_cons rfl ?_
    refine o_cutA (xs := p0_2) (kl := .i64) (kh := .i64) (L := 0) (H := p1) rfl rfl rfl Try.underlying24 tI3 HRp0_2.1 hx49 ?_
    have D49 := HRp0_2.cut hx49
    try dsimp only [putL, setL, evL, getL]
    refine HL_cons rfl ?_
    refine o_len rfl Try.underlying24 ?_
    try dsimp only [putL, setL, evL, getL]
    refine HL_cons rfl ?_
    refine o_move ?_
    try dsimp only [putL, setL, evL, getL]
    refine HL_nil ?_
    refine hK48 _ _ ?_
    refine joinH H fun G50 hG50 H => ?_
    refine HT_toK (fun l' s' => ∃ (x77 : Int), G50 x77 = some r ∧ l' = [.agg #[.int .i64 p0_0, .slice A0_1p p0_1.length c0_1p, .slice A0_2p p0_2.length c0_2p, .int .i64 p0_3], .int .i64 p1, .pointer (some ⟨b2, 0, none⟩), undef, .pointer (some ⟨b3, 0, none⟩), .slice none 0 0, .pointer (some ⟨b23, 0, none⟩), undef, getL l' 8, j9, j10, j11, j12, j13, j14, j15, j16, j17, j18, j19, j20, j21, j22, j23, .pointer (some ⟨b2, 0 + 2, none⟩), .slice A0_2p p0_2.length c0_2p, .int .i64 p1, .slice (cutA A0_2p c0_2p (Int.toNat 0) (Kd.sz KI)) x49.length (c0_2p - Int.toNat 0), .int .i64 (x49.length : Int), getL l' 29, getL l' 30, getL l' 31, getL l' 32, getL l' 33, getL l' 34, getL l' 35, getL l' 36, getL l' 37, getL l' 38, undef, undef, undef, undef, undef, undef] ∧ Hp sb s F0 s' [Ck.ol OI 3 A25 c25 x25, Ck.ol OI 3 A26 c26 x26, Ck.ov b2 [.int .i64 p0_0, .slice A0_1p p0_1.length c0_1p, .slice A0_2p p0_2.length c0_2p, .int .i64 p0_3] 37, Ck.ov b3 [.int .i64 0, .slice none 0 0, .slice none 0 0, .int .i64 0] 37, Ck.ov b23 [.int .i64 x24, .slice A25 x25.length c25, .slice A26 x26.length c26, .int .i64 x77] 37]) ?_ ?_
    · intro K50 hK50
      refine HT_block ?_
      refine HT_loopK (fun kf l' s' => ∃ (x85 : Int) (x86 : Int), (spec_l10Drop.l1 x49 kf x85 x86).bind G50 = some r ∧ l' = [.agg #[.int .i64 p0_0, .slice A0_1p p0_1.length c0_1p, .slice A0_2p p0_2.length c0_2p, .int .i64 p0_3], .int .i64 p1, .pointer (some ⟨b2, 0, none⟩), undef, .pointer (some ⟨b3, 0, none⟩), .slice none 0 0, .pointer (some ⟨b23, 0, none⟩), undef, getL l' 8, j9, j10, j11, j12, j13, j14, j15, j16, j17, j18, j19, j20, j21, j22, j23, .pointer (some ⟨b2, 0 + 2, none⟩), .slice A0_2p p0_2.length c0_2p, .int .i64 p1, .slice (cutA A0_2p c0_2p (Int.toNat 0) (Kd.sz KI)) x49.length (c0_2p - Int.toNat 0), .int .i64 (x49.length : Int), .int .i64 x85, getL l' 30, getL l' 31, getL l' 32, getL l' 33, getL l' 34, getL l' 35, getL l' 36, getL l' 37, getL l' 38, undef, undef, undef, undef, undef, undef] ∧ Hp sb s F0 s' [Ck.ol OI 3 A25 c25 x25, Ck.ol OI 3 A26 c26 x26, Ck.ov b2 [.int .i64 p0_0, .slice A0_1p p0_1.length c0_1p, .slice A0_2p p0_2.length c0_2p, .int .i64 p0_3] 37, Ck.ov b3 [.int .i64 0, .slice none 0 0, .slice none 0 0, .int .i64 0] 37, Ck.ov b23 [.int .i64 x24, .slice A25 x25.length c25, .slice A26 x26.length c26, .int .i64 x86] 37]) ((((x49.length : Int)) - (0)).toNat + 2) ⟨0, x27, H, rfl, hH⟩ ?_
      rintro kf l' s96 ⟨x85, x86, H, hl, hH⟩ K96 hK96
      generalize getL l' 8 = j8, getL l' 30 = j30, getL l' 31 = j31, getL l' 32 = j32, getL l' 33 = j33, getL l' 34 = j34, getL l' 35 = j35, getL l' 36 = j36, getL l' 37 = j37, getL l' 38 = j38 at hl
      subst hl
      cases kf with
      | zero => simp [spec_l10Drop.l1] at H
      | succ kf =>
        rw [spec_l10Drop.l1] at H
        refine HT_seq_k ?_
        intro K97 hK97
        refine HT_region ?_
        refine HL_cons rfl ?_
        refine o_bin rfl rfl rfl ?_
        try dsimp only [putL, setL, evL, getL]
        refine HL_nil ?_
        refine hK97 _ _ ?_
        refine HT_seq_k ?_
        intro K98 hK98
        rcases Bool.eq_false_or_eq_true (decide (x85 < (x49.length : Int))) with hb99 | hb99
        · replace H := iteT hb99 H
          refine HT_true (congrArg Value.bool hb99) ?_
          refine HT_skip ?_
          refine hK98 _ _ ?_
          refine HT_seq_k ?_
          intro K100 hK100
          refine HT_block ?_
          refine HT_seq_k ?_
          intro K101 hK101
          refine HT_region ?_
          replace H := headE H
          obtain ⟨u102, hu102, H⟩ := H
          obtain ⟨b102, o102, cs102, hr102, hh102, hel102⟩ := Rd.elb D49 hu102
          obtain rfl := hr102
          refine HL_cons rfl ?_
          refine hel102 s96 rfl rfl Try.underlying24 tI3 ?_
          try dsimp only [putL, setL, evL, getL]
          refine HL_cons rfl ?_
          refine o_load' rfl Try.underlying3 rfl ((hh102 hH.bs.mono) 0 _ rfl) ?_
          try dsimp only [putL, setL, evL, getL]
          refine HL_cons rfl ?_
          refine o_assign ?_
          try dsimp only [putL, setL, evL, getL]
          refine HL_nil ?_
          refine hK101 _ _ ?_
          refine HT_region ?_
          refine HL_cons rfl ?_
          refine o_faddr' (ft := 3) (off := 3) rfl Try.underlying37 rfl tI3 (by decide) ?_
          try dsimp only [putL, setL, evL, getL]
          refine HL_cons rfl ?_
          refine o_load' rfl Try.underlying3 rfl (hH.hasv 4 rfl rfl) ?_
          try dsimp only [putL, setL, evL, getL]
          refine HL_cons rfl ?_
          refine o_move ?_
          try dsimp only [putL, setL, evL, getL]
          refine HL_cons rfl ?_
          refine o_bin rfl rfl rfl ?_
          try dsimp only [putL, setL, evL, getL]
          refine HL_cons rfl ?_
          refine o_faddr' (ft := 3) (off := 3) rfl Try.underlying37 rfl tI3 (by decide) ?_
          try dsimp only [putL, setL, evL, getL]
          refine HL_cons rfl ?_
          refine o_stvH (vs := [.int .i64 (IntKind.i64.wrap (x86 + u102))]) (us' := [.int .i64 x24, .slice A25 x25.length c25, .slice A26 x26.length c26, .int .i64 (IntKind.i64.wrap (x86 + u102))]) hH 4 rfl rfl rfl rfl rfl tI3 rfl (List.cons_ne_nil _ _) rfl rfl rfl ?_
          intro s103 hH'
          replace hH : Hp sb s F0 s103 [Ck.ol OI 3 A25 c25 x25, Ck.ol OI 3 A26 c26 x26, Ck.ov b2 [.int .i64 p0_0, .slice A0_1p p0_1.length c0_1p, .slice A0_2p p0_2.length c0_2p, .int .i64 p0_3] 37, Ck.ov b3 [.int .i64 0, .slice none 0 0, .slice none 0 0, .int .i64 0] 37, Ck.ov b23 [.int .i64 x24, .slice A25 x25.length c25, .slice A26 x26.length c26, .int .i64 (IntKind.i64.wrap (x86 + u102))] 37] := hH'
          clear hH'
          try dsimp only [putL, setL, evL, getL]
          refine HL_nil ?_
          refine hK100 _ _ ?_
          refine HT_region ?_
          refine HL_cons rfl ?_
          refine o_bin rfl rfl rfl ?_
          try dsimp only [putL, setL, evL, getL]
          refine HL_cons rfl ?_
          refine o_move ?_
          try dsimp only [putL, setL, evL, getL]
          refine HL_nil ?_
          exact hK96 _ _ ⟨kf, Nat.lt_succ_self kf, IntKind.i64.wrap (x85 + 1), IntKind.i64.wrap (x86 + u102), H, rfl, hH⟩
        · replace H := iteF hb99 H
          refine HT_false (congrArg Value.bool hb99) ?_
          refine HT_exit ?_
          exact hK50 _ _ ⟨x86, H, rfl, hH⟩
    · rintro l' s104 ⟨x77, H, hl, hH⟩
      generalize getL l' 8 = j8, getL l' 29 = j29, getL l' 30 = j30, getL l' 31 = j31, getL l' 32 = j32, getL l' 33 = j33, getL l' 34 = j34, getL l' 35 = j35, getL l' 36 = j36, getL l' 37 = j37, getL l' 38 = j38 at hl
      subst hl
      replace H := hG50 _ H
      try dsimp only at H
      refine hK47 _ _ ?_
      refine HT_seq_k ?_
      intro K105 hK105
      refine HX_draw hMix ?_
      refine HX_lim (R := fun _ => True) (k := 0) (fun s' => Gro s104 s') 6 ?_
      have hR := Gro.refl s104
      have hH0 := hH
      refine HK_read 0 (v := .agg #[.int .i64 x24, .slice A25 x25.length c25, .slice A26 x26.length c26, .int .i64 x77]) rfl (by kernel_rfl) (fun c l s h => hQp c l s h) rfl (fun s' hR' K hK => ?_) rfl rfl hR ?_
      · refine o_loads' [.int .i64 x24, .slice A25 x25.length c25, .slice A26 x26.length c26, .int .i64 x77] rfl Try.underlying37 rfl tI37 rfl (fun j v hj => has_gro hR' ((hH0.partv 4 rfl (0) [.int .i64 x24, .slice A25 x25.length c25, .slice A26 x26.length c26, .int .i64 x77] rfl) j v hj)) ?_
        exact hK
      try dsimp only [putL, setL, evL, getL]
      refine HK_readP 1 (v := .pointer (some ⟨b2, 0 + 1, none⟩)) rfl (by kernel_rfl) (fun c l s h => hQp c l s h) rfl (fun s' K hK => ?_) rfl rfl (fun _ => hR) ?_
      · refine o_faddr' (ft := 24) (off := 1) rfl Try.underlying37 rfl tI24 (by decide) ?_
        exact hK
      try dsimp only [putL, setL, evL, getL]
      refine HK_read 2 (v := .slice A0_1p p0_1.length c0_1p) rfl (by kernel_rfl) (fun c l s h => hQp c l s h) rfl (fun s' hR' K hK => ?_) rfl rfl hR ?_
      · refine o_load' rfl Try.underlying24 rfl (has_gro hR' (hH0.hasv 2 rfl rfl)) ?_
        exact hK
      try dsimp only [putL, setL, evL, getL]
      refine HK_readP 3 (v := .int .i64 p1) rfl (by kernel_rfl) (fun c l s h => hQp c l s h) rfl (fun s' K hK => ?_) rfl rfl (fun _ => hR) ?_
      · refine o_move ?_
        exact hK
      try dsimp only [putL, setL, evL, getL]
      replace H := headE H
      obtain ⟨x106, hx106, H⟩ := H
      refine HK_readP 4 (v := .slice (cutA A0_1p c0_1p (Int.toNat 0) (Kd.sz KI)) x106.length (c0_1p - Int.toNat 0)) rfl (by kernel_rfl) (fun c l s h => hQp c l s h) rfl (fun s' K hK => ?_) rfl rfl (fun _ => hR) ?_
      · refine o_cutA (xs := p0_1) (kl := .i64) (kh := .i64) (L := 0) (H := p1) rfl rfl rfl Try.underlying24 tI3 HRp0_1.1 hx106 ?_
        exact hK
      have D106 := HRp0_1.cut hx106
      try dsimp only [putL, setL, evL, getL]
      refine HK_more [5] (by kernel_rfl) rfl (fun _ => hR) ⟨⟨_, rfl, Or.inl ⟨rfl, ?_⟩⟩, trivial⟩
      replace H := headE H
      obtain ⟨u107, hu107, H⟩ := H
      skip
      refine o_call (args := #[.slice (cutA A0_1p c0_1p (Int.toNat 0) (Kd.sz KI)) x106.length (c0_1p - Int.toNat 0)]) Try.func144 rfl rfl rfl (spec_l1Own.ok sb s104 no (cutA A0_1p c0_1p (Int.toNat 0) (Kd.sz KI)) (c0_1p - Int.toNat 0) x106 D106 (Hp.own hH.bs) _ hu107) ?_
      rintro _ s107 ⟨A108, c108, rfl, hD⟩
      replace hR := hR.trans hD.gro
      replace hH := hH.back0 hD (Up.refl _ _ _)
      clear hD
      dsimp only [addC, setC, rmC, selC, getC] at hH
      try dsimp only [putL, setL, evL, getL]
      refine HK_more [6] (by kernel_rfl) rfl (fun _ => hR) ⟨⟨_, rfl, Or.inl ⟨rfl, ?_⟩⟩, trivial⟩
      skip
      refine o_stvH (vs := [.int .i64 x24, .slice A25 x25.length c25, .slice A26 x26.length c26, .int .i64 x77]) (us' := [.int .i64 x24, .slice A25 x25.length c25, .slice A26 x26.length c26, .int .i64 x77]) hH 3 rfl rfl rfl rfl rfl tI37 rfl (List.cons_ne_nil _ _) rfl rfl rfl ?_
      intro s109 hH'
      replace hH : Hp sb s F0 s109 [Ck.ol OI 3 A25 c25 x25, Ck.ol OI 3 A26 c26 x26, Ck.ov b2 [.int .i64 p0_0, .slice A0_1p p0_1.length c0_1p, .slice A0_2p p0_2.length c0_2p, .int .i64 p0_3] 37, Ck.ov b3 [.int .i64 x24, .slice A25 x25.length c25, .slice A26 x26.length c26, .int .i64 x77] 37, Ck.ov b23 [.int .i64 x24, .slice A25 x25.length c25, .slice A26 x26.length c26, .int .i64 x77] 37, Ck.ol OI 3 A108 c108 u107] := hH'
      clear hH'
      try dsimp only [putL, setL, evL, getL]
      refine HK_free (by kernel_rfl) ?_
      refine HX_lim (R := fun _ => True) (k := 0) (fun s' => Gro s109 s') 9 ?_
      have hR := Gro.refl s109
      have hH0 := hH
      refine HK_more [7] (by kernel_rfl) rfl (fun _ => hR) ⟨⟨_, rfl, Or.inl ⟨rfl, ?_⟩⟩, trivial⟩
      skip
      refine o_assign ?_
      try dsimp only [putL, setL, evL, getL]
      refine HK_done (fun _ => hR) (by kernel_rfl) ?_
      refine hK105 _ _ ?_
      refine HT_ret ?_
      exact hQr _ _ [.agg #[.int .i64 x24, .slice A25 x25.length c25, .slice A26 x26.length c26, .int .i64 x77], .slice A108 u107.length c108] ⟨ResV.cells rfl Try.underlying37 rfl tI37 (hH.var 3 rfl) rfl, rfl, trivial⟩ (retH (fun r => spec_l10Drop.post sb s F0 r _ _) (show some _ = some r from H) ⟨A25, c25, A26, c26, A108, c108, rfl, hH.sel [0, 1, 5] (by decide)⟩)
def spec_l10Put.f (p0_0 : Int) (p0_1 : List (Int)) (p0_2 : List (Int)) (p0_3 : Int) (p1 : List (Int)) (p2 : List (Int)) : Option (Int × (List (Int)) × (List (Int)) × Int × (List (Int))) := (spec_l1Own.f p0_1).bind fun u8 => (app? 17592186044416 u8 p1).bind fun x10 => (spec_l1Own.f p0_2).bind fun u13 => (app? 17592186044416 u13 p2).bind fun x15 => (spec_l1Most.f 0 (IntKind.i64.wrap ((x10.length : Int) - p0_0))).bind fun u18 => (spec_l10Drop.f p0_0 x10 x15 p0_3 u18).bind fun u19 => some (u19.1, u19.2.1, u19.2.2.1, u19.2.2.2.1, u19.2.2.2.2)
def spec_l10Put.post (sb s : St) (F0 : Fp) (r : Int × (List (Int)) × (List (Int)) × Int × (List (Int))) : Value → St → Prop := fun v s' => ∃ (A1 : Option Addr) (c1 : Nat) (A2 : Option Addr) (c2 : Nat) (A4 : Option Addr) (c4 : Nat), v = .tuple #[.agg #[.int .i64 r.1, .slice A1 r.2.1.length c1, .slice A2 r.2.2.1.length c2, .int .i64 r.2.2.2.1], .slice A4 r.2.2.2.2.length c4] ∧ Hp sb s F0 s' [Ck.ol OI 3 A1 c1 r.2.1, Ck.ol OI 3 A2 c2 r.2.2.1, Ck.ol OI 3 A4 c4 r.2.2.2.2]
set_option maxRecDepth 100000 in
set_option maxHeartbeats 4000000 in
theorem spec_l10Put.ok (sb s : St) (F0 : Fp) (p0_0 : Int) (A0_1p : Option Addr) (c0_1p : Nat) (p0_1 : List (Int)) (A0_2p : Option Addr) (c0_2p : Nat) (p0_2 : List (Int)) (p0_3 : Int) (A1p : Option Addr) (c1p : Nat) (p1 : List (Int)) (A2p : Option Addr) (c2p : Nat) (p2 : List (Int)) (HRp0_1 : Rd KI sb A0_1p c0_1p p0_1) (HRp0_2 : Rd KI sb A0_2p c0_2p p0_2) (HRp1 : Rd KI sb A1p c1p p1) (HRp2 : Rd KI sb A2p c2p p2) (hH : Hp sb s F0 s []) (r : Int × (List (Int)) × (List (Int)) × Int × (List (Int))) (H : spec_l10Put.f p0_0 p0_1 p0_2 p0_3 p1 p2 = some r) : GCall Try.prog 121 #[.agg #[.int .i64 p0_0, .slice A0_1p p0_1.length c0_1p, .slice A0_2p p0_2.length c0_2p, .int .i64 p0_3], .slice A1p p1.length c1p, .slice A2p p2.length c2p] s (spec_l10Put.post sb s F0 r) := by
  refine GCall_ofk [.cell 6 37, .tmp 7] [.agg #[.int .i64 p0_0, .slice A0_1p p0_1.length c0_1p, .slice A0_2p p0_2.length c0_2p, .int .i64 p0_3], .slice A1p p1.length c1p, .slice A2p p2.length c2p, undef, undef, undef, undef, undef, undef, undef, undef, undef, undef, undef, undef, undef, undef, undef, undef, undef, undef, undef, undef, undef, undef, undef, undef, undef, undef, undef, undef, undef, undef, undef, undef, undef, undef] Try.func121 rfl rfl rfl ?_
  intro w Q hQr hQn hQp
  replace H := topE H
  unfold spec_l10Put.f at H
  refine HT_seq_k ?_
  intro K1 hK1
  refine HT_region ?_
  refine HL_cons rfl ?_
  refine o_boxH hH rfl ?_
  intro b2 s2 hH' hG
  replace hH : Hp sb s F0 s2 [Ck.ov b2 [.int .i64 p0_0, .slice A0_1p p0_1.length c0_1p, .slice A0_2p p0_2.length c0_2p, .int .i64 p0_3] 37] := hH'
  clear hH' hG
  try dsimp only [putL, setL, evL, getL]
  refine HL_cons rfl ?_
  refine o_allocH hH tI37 ?_
  intro b3 s3 hH' hG
  replace hH : Hp sb s F0 s3 [Ck.ov b2 [.int .i64 p0_0, .slice A0_1p p0_1.length c0_1p, .slice A0_2p p0_2.length c0_2p, .int .i64 p0_3] 37, Ck.ov b3 [.int .i64 0, .slice none 0 0, .slice none 0 0, .int .i64 0] 37] := hH'
  clear hH' hG
  try dsimp only [putL, setL, evL, getL]
  refine HL_cons rfl ?_
  refine o_assign ?_
  try dsimp only [putL, setL, evL, getL]
  refine HL_nil ?_
  refine hK1 _ _ ?_
  refine HT_seq_k ?_
  intro K4 hK4
  refine HT_region ?_
  refine HL_cons rfl ?_
  refine o_faddr' (ft := 3) (off := 0) rfl Try.underlying37 rfl tI3 (by decide) ?_
  try dsimp only [putL, setL, evL, getL]
  refine HL_cons rfl ?_
  refine o_load' rfl Try.underlying3 rfl (hH.hasv 0 rfl rfl) ?_
  try dsimp only [putL, setL, evL, getL]
  refine HL_cons rfl ?_
  refine o_faddr' (ft := 3) (off := 3) rfl Try.underlying37 rfl tI3 (by decide) ?_
  try dsimp only [putL, setL, evL, getL]
  refine HL_cons rfl ?_
  refine o_load' rfl Try.underlying3 rfl (hH.hasv 0 rfl rfl) ?_
  try dsimp only [putL, setL, evL, getL]
  refine HL_cons rfl ?_
  refine o_build (pl := [(0, 1), (1, 1), (2, 1), (3, 1)]) (cs := #[.int .i64 p0_0, .slice none 0 0, .slice none 0 0, .int .i64 p0_3]) Try.underlying37 tI37 (by kernel_rfl) (by kernel_rfl) rfl ?_
  try dsimp only [putL, setL, evL, getL]
  refine HL_cons rfl ?_
  refine o_allocH hH tI37 ?_
  intro b5 s5 hH' hG
  replace hH : Hp sb s F0 s5 [Ck.ov b2 [.int .i64 p0_0, .slice A0_1p p0_1.length c0_1p, .slice A0_2p p0_2.length c0_2p, .int .i64 p0_3] 37, Ck.ov b3 [.int .i64 0, .slice none 0 0, .slice none 0 0, .int .i64 0] 37, Ck.ov b5 [.int .i64 0, .slice none 0 0, .slice none 0 0, .int .i64 0] 37] := hH'
  clear hH' hG
  try dsimp only [putL, setL, evL, getL]
  refine HL_cons rfl ?_
  refine o_stvH (vs := [.int .i64 p0_0, .slice none 0 0, .slice none 0 0, .int .i64 p0_3]) (us' := [.int .i64 p0_0, .slice none 0 0, .slice none 0 0, .int .i64 p0_3]) hH 2 rfl rfl rfl rfl rfl tI37 rfl (List.cons_ne_nil _ _) rfl rfl rfl ?_
  intro s6 hH'
  replace hH : Hp sb s F0 s6 [Ck.ov b2 [.int .i64 p0_0, .slice A0_1p p0_1.length c0_1p, .slice A0_2p p0_2.length c0_2p, .int .i64 p0_3] 37, Ck.ov b3 [.int .i64 0, .slice none 0 0, .slice none 0 0, .int .i64 0] 37, Ck.ov b5 [.int .i64 p0_0, .slice none 0 0, .slice none 0 0, .int .i64 p0_3] 37] := hH'
  clear hH'
  try dsimp only [putL, setL, evL, getL]
  refine HL_nil ?_
  refine hK4 _ _ ?_
  refine HT_seq_k ?_
  intro K7 hK7
  refine HT_region ?_
  refine HL_cons rfl ?_
  refine o_faddr' (ft := 24) (off := 1) rfl Try.underlying37 rfl tI24 (by decide) ?_
  try dsimp only [putL, setL, evL, getL]
  refine HL_cons rfl ?_
  refine o_load' rfl Try.underlying24 rfl (hH.hasv 0 rfl rfl) ?_
  try dsimp only [putL, setL, evL, getL]
  replace H := headE H
  obtain ⟨u8, hu8, H⟩ := H
  refine HL_cons rfl ?_
  refine o_call (args := #[.slice A0_1p p0_1.length c0_1p]) Try.func144 rfl rfl rfl (spec_l1Own.ok sb s6 no A0_1p c0_1p p0_1 HRp0_1 (Hp.own hH.bs) _ hu8) ?_
  rintro _ s8 ⟨A9, c9, rfl, hD⟩
  replace hH := hH.back0 hD (Up.refl _ _ _)
  clear hD
  dsimp only [addC, setC, rmC, selC, getC] at hH
  try dsimp only [putL, setL, evL, getL]
  refine HL_cons rfl ?_
  refine o_move ?_
  try dsimp only [putL, setL, evL, getL]
  replace H := headE H
  obtain ⟨x10, hx10, H⟩ := H
  refine HL_cons rfl ?_
  refine o_appF (K := KI) (n := 17592186044416) (A := A9) (c := c9) (xs := u8) (ys := p1) (B := A1p) (c2 := c1p) hH 3 rfl rfl rfl rfl Try.underlying24 tI3 rfl (by decide) (by decide) (by decide) (Src.flat (HRp1.mono hH.bs.mono)) hx10 ?_
  intro A10 c10 s10 hH'
  replace hH : Hp sb s F0 s10 [Ck.ov b2 [.int .i64 p0_0, .slice A0_1p p0_1.length c0_1p, .slice A0_2p p0_2.length c0_2p, .int .i64 p0_3] 37, Ck.ov b3 [.int .i64 0, .slice none 0 0, .slice none 0 0, .int .i64 0] 37, Ck.ov b5 [.int .i64 p0_0, .slice none 0 0, .slice none 0 0, .int .i64 p0_3] 37, Ck.ol OI 3 A10 c10 x10] := hH'
  clear hH'
  try dsimp only [putL, setL, evL, getL]
  refine HL_cons rfl ?_
  refine o_faddr' (ft := 24) (off := 1) rfl Try.underlying37 rfl tI24 (by decide) ?_
  try dsimp only [putL, setL, evL, getL]
  refine HL_cons rfl ?_
  refine o_stvH (vs := [.slice A10 x10.length c10]) (us' := [.int .i64 p0_0, .slice A10 x10.length c10, .slice none 0 0, .int .i64 p0_3]) hH 2 rfl rfl rfl rfl rfl tI24 rfl (List.cons_ne_nil _ _) rfl rfl rfl ?_
  intro s11 hH'
  replace hH : Hp sb s F0 s11 [Ck.ov b2 [.int .i64 p0_0, .slice A0_1p p0_1.length c0_1p, .slice A0_2p p0_2.length c0_2p, .int .i64 p0_3] 37, Ck.ov b3 [.int .i64 0, .slice none 0 0, .slice none 0 0, .int .i64 0] 37, Ck.ov b5 [.int .i64 p0_0, .slice A10 x10.length c10, .slice none 0 0, .int .i64 p0_3] 37, Ck.ol OI 3 A10 c10 x10] := hH'
  clear hH'
  try dsimp only [putL, setL, evL, getL]
  refine HL_nil ?_
  refine hK7 _ _ ?_
  refine HT_seq_k ?_
  intro K12 hK12
  refine HT_region ?_
  refine HL_cons rfl ?_
  refine o_faddr' (ft := 24) (off := 2) rfl Try.underlying37 rfl tI24 (by decide) ?_
  try dsimp only [putL, setL, evL, getL]
  refine HL_cons rfl ?_
  refine o_load' rfl Try.underlying24 rfl (hH.hasv 0 rfl rfl) ?_
  try dsimp only [putL, setL, evL, getL]
  replace H := headE H
  obtain ⟨u13, hu13, H⟩ := H
  refine HL_cons rfl ?_
  refine o_call (args := #[.slice A0_2p p0_2.length c0_2p]) Try.func144 rfl rfl rfl (spec_l1Own.ok sb s11 no A0_2p c0_2p p0_2 HRp0_2 (Hp.own hH.bs) _ hu13) ?_
  rintro _ s13 ⟨A14, c14, rfl, hD⟩
  replace hH := hH.back0 hD (Up.refl _ _ _)
  clear hD
  dsimp only [addC, setC, rmC, selC, getC] at hH
  try dsimp only [putL, setL, evL, getL]
  refine HL_cons rfl ?_
  refine o_move ?_
  try dsimp only [putL, setL, evL, getL]
  replace H := headE H
  obtain ⟨x15, hx15, H⟩ := H
  refine HL_cons rfl ?_
  refine o_appF (K := KI) (n := 17592186044416) (A := A14) (c := c14) (xs := u13) (ys := p2) (B := A2p) (c2 := c2p) hH 4 rfl rfl rfl rfl Try.underlying24 tI3 rfl (by decide) (by decide) (by decide) (Src.flat (HRp2.mono hH.bs.mono)) hx15 ?_
  intro A15 c15 s15 hH'
  replace hH : Hp sb s F0 s15 [Ck.ov b2 [.int .i64 p0_0, .slice A0_1p p0_1.length c0_1p, .slice A0_2p p0_2.length c0_2p, .int .i64 p0_3] 37, Ck.ov b3 [.int .i64 0, .slice none 0 0, .slice none 0 0, .int .i64 0] 37, Ck.ov b5 [.int .i64 p0_0, .slice A10 x10.length c10, .slice none 0 0, .int .i64 p0_3] 37, Ck.ol OI 3 A10 c10 x10, Ck.ol OI 3 A15 c15 x15] := hH'
  clear hH'
  try dsimp only [putL, setL, evL, getL]
  refine HL_cons rfl ?_
  refine o_faddr' (ft := 24) (off := 2) rfl Try.underlying37 rfl tI24 (by decide) ?_
  try dsimp only [putL, setL, evL, getL]
  refine HL_cons rfl ?_
  refine o_stvH (vs := [.slice A15 x15.length c15]) (us' := [.int .i64 p0_0, .slice A10 x10.length c10, .slice A15 x15.length c15, .int .i64 p0_3]) hH 2 rfl rfl rfl rfl rfl tI24 rfl (List.cons_ne_nil _ _) rfl rfl rfl ?_
  intro s16 hH'
  replace hH : Hp sb s F0 s16 [Ck.ov b2 [.int .i64 p0_0, .slice A0_1p p0_1.length c0_1p, .slice A0_2p p0_2.length c0_2p, .int .i64 p0_3] 37, Ck.ov b3 [.int .i64 0, .slice none 0 0, .slice none 0 0, .int .i64 0] 37, Ck.ov b5 [.int .i64 p0_0, .slice A10 x10.length c10, .slice A15 x15.length c15, .int .i64 p0_3] 37, Ck.ol OI 3 A10 c10 x10, Ck.ol OI 3 A15 c15 x15] := hH'
  clear hH'
  try dsimp only [putL, setL, evL, getL]
  refine HL_nil ?_
  refine hK12 _ _ ?_
  refine HT_seq_k ?_
  intro K17 hK17
  refine HX_draw hMix ?_
  refine HX_lim (R := fun _ => True) (k := 0) (fun s' => Gro s16 s') 11 ?_
  have hR := Gro.refl s16
  have hH0 := hH
  refine HK_read 0 (v := .agg #[.int .i64 p0_0, .slice A10 x10.length c10, .slice A15 x15.length c15, .int .i64 p0_3]) rfl (by kernel_rfl) (fun c l s h => hQp c l s h) rfl (fun s' hR' K hK => ?_) rfl rfl hR ?_
  · refine o_loads' [.int .i64 p0_0, .slice A10 x10.length c10, .slice A15 x15.length c15, .int .i64 p0_3] rfl Try.underlying37 rfl tI37 rfl (fun j v hj => has_gro hR' ((hH0.partv 2 rfl (0) [.int .i64 p0_0, .slice A10 x10.length c10, .slice A15 x15.length c15, .int .i64 p0_3] rfl) j v hj)) ?_
    exact hK
  try dsimp only [putL, setL, evL, getL]
  refine HK_readP 1 (v := .pointer (some ⟨b5, 0 + 1, none⟩)) rfl (by kernel_rfl) (fun c l s h => hQp c l s h) rfl (fun s' K hK => ?_) rfl rfl (fun _ => hR) ?_
  · refine o_faddr' (ft := 24) (off := 1) rfl Try.underlying37 rfl tI24 (by decide) ?_
    exact hK
  try dsimp only [putL, setL, evL, getL]
  refine HK_read 2 (v := .slice A10 x10.length c10) rfl (by kernel_rfl) (fun c l s h => hQp c l s h) rfl (fun s' hR' K hK => ?_) rfl rfl hR ?_
  · refine o_load' rfl Try.underlying24 rfl (has_gro hR' (hH0.hasv 2 rfl rfl)) ?_
    exact hK
  try dsimp only [putL, setL, evL, getL]
  refine HK_readP 3 (v := .int .i64 (x10.length : Int)) rfl (by kernel_rfl) (fun c l s h => hQp c l s h) rfl (fun s' K hK => ?_) rfl rfl (fun _ => hR) ?_
  · refine o_len rfl Try.underlying24 ?_
    exact hK
  try dsimp only [putL, setL, evL, getL]
  refine HK_readP 4 (v := .pointer (some ⟨b2, 0 + 0, none⟩)) rfl (by kernel_rfl) (fun c l s h => hQp c l s h) rfl (fun s' K hK => ?_) rfl rfl (fun _ => hR) ?_
  · refine o_faddr' (ft := 3) (off := 0) rfl Try.underlying37 rfl tI3 (by decide) ?_
    exact hK
  try dsimp only [putL, setL, evL, getL]
  refine HK_read 5 (v := .int .i64 p0_0) rfl (by kernel_rfl) (fun c l s h => hQp c l s h) rfl (fun s' hR' K hK => ?_) rfl rfl hR ?_
  · refine o_load' rfl Try.underlying3 rfl (has_gro hR' (hH0.hasv 0 rfl rfl)) ?_
    exact hK
  try dsimp only [putL, setL, evL, getL]
  refine HK_readP 6 (v := .int .i64 (IntKind.i64.wrap ((x10.length : Int) - p0_0))) rfl (by kernel_rfl) (fun c l s h => hQp c l s h) rfl (fun s' K hK => ?_) rfl rfl (fun _ => hR) ?_
  · refine o_bin rfl rfl rfl ?_
    exact hK
  try dsimp only [putL, setL, evL, getL]
  refine HK_more [7] (by kernel_rfl) rfl (fun _ => hR) ⟨⟨_, rfl, Or.inl ⟨rfl, ?_⟩⟩, trivial⟩
  replace H := headE H
  obtain ⟨u18, hu18, H⟩ := H
  skip
  refine o_call (args := #[.int .i64 0, .int .i64 (IntKind.i64.wrap ((x10.length : Int) - p0_0))]) Try.func187 rfl rfl rfl (spec_l1Most.ok sb s16 no 0 (IntKind.i64.wrap ((x10.length : Int) - p0_0)) (Hp.own hH.bs) _ hu18) ?_
  rintro _ s18 ⟨rfl, hD⟩
  replace hR := hR.trans hD.gro
  replace hH := hH.back0 hD (Up.refl _ _ _)
  clear hD
  dsimp only [addC, setC, rmC, selC, getC] at hH
  try dsimp only [putL, setL, evL, getL]
  refine HK_more [8] (by kernel_rfl) rfl (fun _ => hR) ⟨⟨_, rfl, Or.inl ⟨rfl, ?_⟩⟩, trivial⟩
  replace H := headE H
  obtain ⟨u19, hu19, H⟩ := H
  skip
  refine o_call (args := #[.agg #[.int .i64 p0_0, .slice A10 x10.length c10, .slice A15 x15.length c15, .int .i64 p0_3], .int .i64 u18]) Try.func124 rfl rfl rfl (spec_l10Drop.ok s18 s18 no p0_0 A10 c10 x10 A15 c15 x15 p0_3 u18 (hH.rd 3 rfl) (hH.rd 4 rfl) (Hp.own (Bs.refl s18)) _ hu19) ?_
  rintro _ s19 ⟨A20, c20, A21, c21, A22, c22, rfl, hD⟩
  replace hR := hR.trans hD.gro
  replace hH := hH.back0T hD
  clear hD
  dsimp only [addC, setC, rmC, selC, getC] at hH
  try dsimp only [putL, setL, evL, getL]
  refine HK_readP 9 (v := .agg #[.int .i64 u19.1, .slice A20 u19.2.1.length c20, .slice A21 u19.2.2.1.length c21, .int .i64 u19.2.2.2.1]) rfl (by kernel_rfl) (fun c l s h => hQp c l s h) rfl (fun s' K hK => ?_) rfl rfl (fun _ => hR) ?_
  · refine o_extract rfl rfl ?_
    exact hK
  try dsimp only [putL, setL, evL, getL]
  refine HK_readP 10 (v := .slice A22 u19.2.2.2.2.length c22) rfl (by kernel_rfl) (fun c l s h => hQp c l s h) rfl (fun s' K hK => ?_) rfl rfl (fun _ => hR) ?_
  · refine o_extract rfl rfl ?_
    exact hK
  try dsimp only [putL, setL, evL, getL]
  refine HK_more [11] (by kernel_rfl) rfl (fun _ => hR) ⟨⟨_, rfl, Or.inl ⟨rfl, ?_⟩⟩, trivial⟩
  skip
  refine o_stvH (vs := [.int .i64 u19.1, .slice A20 u19.2.1.length c20, .slice A21 u19.2.2.1.length c21, .int .i64 u19.2.2.2.1]) (us' := [.int .i64 u19.1, .slice A20 u19.2.1.length c20, .slice A21 u19.2.2.1.length c21, .int .i64 u19.2.2.2.1]) hH 1 rfl rfl rfl rfl rfl tI37 rfl (List.cons_ne_nil _ _) rfl rfl rfl ?_
  intro s23 hH'
  replace hH : Hp sb s F0 s23 [Ck.ov b2 [.int .i64 p0_0, .slice A0_1p p0_1.length c0_1p, .slice A0_2p p0_2.length c0_2p, .int .i64 p0_3] 37, Ck.ov b3 [.int .i64 u19.1, .slice A20 u19.2.1.length c20, .slice A21 u19.2.2.1.length c21, .int .i64 u19.2.2.2.1] 37, Ck.ov b5 [.int .i64 p0_0, .slice A10 x10.length c10, .slice A15 x15.length c15, .int .i64 p0_3] 37, Ck.ol OI 3 A10 c10 x10, Ck.ol OI 3 A15 c15 x15, Ck.ol OI 3 A20 c20 u19.2.1, Ck.ol OI 3 A21 c21 u19.2.2.1, Ck.ol OI 3 A22 c22 u19.2.2.2.2] := hH'
  clear hH'
  try dsimp only [putL, setL, evL, getL]
  refine HK_free (by kernel_rfl) ?_
  refine HX_lim (R := fun _ => True) (k := 0) (fun s' => Gro s23 s') 14 ?_
  have hR := Gro.refl s23
  have hH0 := hH
  refine HK_more [12] (by kernel_rfl) rfl (fun _ => hR) ⟨⟨_, rfl, Or.inl ⟨rfl, ?_⟩⟩, trivial⟩
  skip
  refine o_assign ?_
  try dsimp only [putL, setL, evL, getL]
  refine HK_done (fun _ => hR) (by kernel_rfl) ?_
  refine hK17 _ _ ?_
  refine HT_ret ?_
  exact hQr _ _ [.agg #[.int .i64 u19.1, .slice A20 u19.2.1.length c20, .slice A21 u19.2.2.1.length c21, .int .i64 u19.2.2.2.1], .slice A22 u19.2.2.2.2.length c22] ⟨ResV.cells rfl Try.underlying37 rfl tI37 (hH.var 1 rfl) rfl, rfl, trivial⟩ (retH (fun r => spec_l10Put.post sb s F0 r _ _) (show some _ = some r from H) ⟨A20, c20, A21, c21, A22, c22, rfl, hH.sel [5, 6, 7] (by decide)⟩)
def spec_PutBuf.f (p0_0 : Int) (p0_1 : List (Int)) (p0_2 : List (Int)) (p0_3 : Int) (p1 : List (Int)) (p2 : List (Int)) : Option (Int × (List (Int)) × (List (Int)) × Int × (List (Int)) × Bool) := ((spec_GoodBuf.f p0_0 p0_1 p0_2 p0_3).bind fun u32 => if (!u32) = true then (some true) else ((spec_l1AllRunes.f p1).bind fun u34 => if (!u34) = true then (some true) else (if ((p2.length : Int) != (p1.length : Int)) = true then (some true) else ((spec_l1All.f p2 1 1000).bind fun u37 => some (!u37))))).bind fun (o : Bool) => match o with | x31 => (if x31 = true then (some (0, [], [], 0, [], false)) else ((spec_l10Put.f p0_0 p0_1 p0_2 p0_3 p1 p2).bind fun u43 => (spec_GoodBuf.f u43.1 u43.2.1 u43.2.2.1 u43.2.2.2.1).bind fun u51 => if (!u51) = true then (some (0, [], [], 0, [], false)) else (some (u43.1, u43.2.1, u43.2.2.1, u43.2.2.2.1, u43.2.2.2.2, true))))
def spec_PutBuf.post (sb s : St) (F0 : Fp) (r : Int × (List (Int)) × (List (Int)) × Int × (List (Int)) × Bool) : Value → St → Prop := fun v s' => ∃ (A1 : Option Addr) (c1 : Nat) (A2 : Option Addr) (c2 : Nat) (A4 : Option Addr) (c4 : Nat), v = .tuple #[.agg #[.int .i64 r.1, .slice A1 r.2.1.length c1, .slice A2 r.2.2.1.length c2, .int .i64 r.2.2.2.1], .slice A4 r.2.2.2.2.1.length c4, .bool r.2.2.2.2.2] ∧ Hp sb s F0 s' [Ck.ol OI 3 A1 c1 r.2.1, Ck.ol OI 3 A2 c2 r.2.2.1, Ck.ol OI 3 A4 c4 r.2.2.2.2.1]
set_option maxRecDepth 100000 in
set_option maxHeartbeats 4000000 in
theorem spec_PutBuf.ok (sb s : St) (F0 : Fp) (p0_0 : Int) (A0_1p : Option Addr) (c0_1p : Nat) (p0_1 : List (Int)) (A0_2p : Option Addr) (c0_2p : Nat) (p0_2 : List (Int)) (p0_3 : Int) (A1p : Option Addr) (c1p : Nat) (p1 : List (Int)) (A2p : Option Addr) (c2p : Nat) (p2 : List (Int)) (HRp0_1 : Rd KI sb A0_1p c0_1p p0_1) (HRp0_2 : Rd KI sb A0_2p c0_2p p0_2) (HRp1 : Rd KI sb A1p c1p p1) (HRp2 : Rd KI sb A2p c2p p2) (hH : Hp sb s F0 s []) (r : Int × (List (Int)) × (List (Int)) × Int × (List (Int)) × Bool) (H : spec_PutBuf.f p0_0 p0_1 p0_2 p0_3 p1 p2 = some r) : GCall Try.prog 26 #[.agg #[.int .i64 p0_0, .slice A0_1p p0_1.length c0_1p, .slice A0_2p p0_2.length c0_2p, .int .i64 p0_3], .slice A1p p1.length c1p, .slice A2p p2.length c2p] s (spec_PutBuf.post sb s F0 r) := by
  refine GCall_ofk [.cell 6 37, .tmp 7, .tmp 8] [.agg #[.int .i64 p0_0, .slice A0_1p p0_1.length c0_1p, .slice A0_2p p0_2.length c0_2p, .int .i64 p0_3], .slice A1p p1.length c1p, .slice A2p p2.length c2p, undef, undef, undef, undef, undef, undef, undef, undef, undef, undef, undef, undef, undef, undef, undef, undef, undef, undef, undef, undef, undef, undef, undef, undef, undef, undef, undef, undef, undef, undef, undef, undef, undef, undef, undef, undef, undef, undef, undef, undef, undef, undef] Try.func26 rfl rfl rfl ?_
  intro w Q hQr hQn hQp
  replace H := topE H
  unfold spec_PutBuf.f at H
  refine HT_seq_k ?_
  intro K1 hK1
  refine HT_region ?_
  refine HL_cons rfl ?_
  refine o_boxH hH rfl ?_
  intro b2 s2 hH' hG
  replace hH : Hp sb s F0 s2 [Ck.ov b2 [.int .i64 p0_0, .slice A0_1p p0_1.length c0_1p, .slice A0_2p p0_2.length c0_2p, .int .i64 p0_3] 37] := hH'
  clear hH' hG
  try dsimp only [putL, setL, evL, getL]
  refine HL_cons rfl ?_
  refine o_allocH hH tI37 ?_
  intro b3 s3 hH' hG
  replace hH : Hp sb s F0 s3 [Ck.ov b2 [.int .i64 p0_0, .slice A0_1p p0_1.length c0_1p, .slice A0_2p p0_2.length c0_2p, .int .i64 p0_3] 37, Ck.ov b3 [.int .i64 0, .slice none 0 0, .slice none 0 0, .int .i64 0] 37] := hH'
  clear hH' hG
  try dsimp only [putL, setL, evL, getL]
  refine HL_cons rfl ?_
  refine o_assign ?_
  try dsimp only [putL, setL, evL, getL]
  refine HL_cons rfl ?_
  refine o_assign ?_
  try dsimp only [putL, setL, evL, getL]
  refine HL_nil ?_
  refine hK1 _ _ ?_
  refine HT_seq_k ?_
  intro K23 hK23
  refine joinH H fun G24 hG24 H => ?_
  refine HT_joinK (fun l' s' => ∃ (x31 : Bool), G24 x31 = some r ∧ l' = [.agg #[.int .i64 p0_0, .slice A0_1p p0_1.length c0_1p, .slice A0_2p p0_2.length c0_2p, .int .i64 p0_3], .slice A1p p1.length c1p, .slice A2p p2.length c2p, .pointer (some ⟨b2, 0, none⟩), undef, undef, .pointer (some ⟨b3, 0, none⟩), .slice none 0 0, .bool false, undef, undef, getL l' 11, getL l' 12, getL l' 13, getL l' 14, getL l' 15, getL l' 16, getL l' 17, getL l' 18, getL l' 19, getL l' 20, getL l' 21, getL l' 22, getL l' 23, getL l' 24, getL l' 25, getL l' 26, getL l' 27, getL l' 28, getL l' 29, .bool x31, undef, undef, undef, undef, undef, undef, undef, undef, undef, undef, undef, undef, undef, undef] ∧ Hp sb s F0 s' [Ck.ov b2 [.int .i64 p0_0, .slice A0_1p p0_1.length c0_1p, .slice A0_2p p0_2.length c0_2p, .int .i64 p0_3] 37, Ck.ov b3 [.int .i64 0, .slice none 0 0, .slice none 0 0, .int .i64 0] 37]) ?_ ?_
  · intro K24 hK24
    refine HT_region ?_
    refine HL_cons rfl ?_
    refine o_loads' [.int .i64 p0_0, .slice A0_1p p0_1.length c0_1p, .slice A0_2p p0_2.length c0_2p, .int .i64 p0_3] rfl Try.underlying37 rfl tI37 rfl (hH.partv 0 rfl (0) [.int .i64 p0_0, .slice A0_1p p0_1.length c0_1p, .slice A0_2p p0_2.length c0_2p, .int .i64 p0_3] rfl) ?_
    try dsimp only [putL, setL, evL, getL]
    replace H := headE H
    obtain ⟨u32, hu32, H⟩ := H
    refine HL_cons rfl ?_
    refine o_call (args := #[.agg #[.int .i64 p0_0, .slice A0_1p p0_1.length c0_1p, .slice A0_2p p0_2.length c0_2p, .int .i64 p0_3]]) Try.func29 rfl rfl rfl (spec_GoodBuf.ok sb s3 no p0_0 A0_1p c0_1p p0_1 A0_2p c0_2p p0_2 p0_3 HRp0_1 HRp0_2 (Hp.own hH.bs) _ hu32) ?_
    rintro _ s32 ⟨rfl, hD⟩
    replace hH := hH.back0 hD (Up.refl _ _ _)
    clear hD
    dsimp only [addC, setC, rmC, selC, getC] at hH
    try dsimp only [putL, setL, evL, getL]
    refine HL_cons rfl ?_
    refine o_not rfl ?_
    try dsimp only [putL, setL, evL, getL]
    refine HL_cons rfl ?_
    refine o_move ?_
    try dsimp only [putL, setL, evL, getL]
    rcases Bool.eq_false_or_eq_true (!u32) with hb33 | hb33
    · replace H := iteT hb33 H
      refine HL_skip ?_ ?_
      · exact wantF (j := 3) (b := false) (t := 14) (c := !u32) rfl rfl rfl rfl hb33
      try dsimp only [putL, setL, evL, getL]
      refine HL_skip ?_ ?_
      · exact wantF (j := 3) (b := false) (t := 14) (c := !u32) rfl rfl rfl rfl hb33
      try dsimp only [putL, setL, evL, getL]
      refine HL_skip ?_ ?_
      · exact wantF (j := 3) (b := false) (t := 14) (c := !u32) rfl rfl rfl rfl hb33
      try dsimp only [putL, setL, evL, getL]
      refine HL_cons rfl ?_
      refine o_pickT rfl hb33 ?_
      try dsimp only [putL, setL, evL, getL]
      refine HL_cons rfl ?_
      refine o_move ?_
      try dsimp only [putL, setL, evL, getL]
      refine HL_skip ?_ ?_
      · exact wantF (j := 8) (b := false) (t := 19) (c := true) rfl rfl rfl rfl rfl
      try dsimp only [putL, setL, evL, getL]
      refine HL_skip ?_ ?_
      · exact wantF (j := 8) (b := false) (t := 19) (c := true) rfl rfl rfl rfl rfl
      try dsimp only [putL, setL, evL, getL]
      refine HL_skip ?_ ?_
      · exact wantF (j := 8) (b := false) (t := 19) (c := true) rfl rfl rfl rfl rfl
      try dsimp only [putL, setL, evL, getL]
      refine HL_skip ?_ ?_
      · exact wantF (j := 8) (b := false) (t := 19) (c := true) rfl rfl rfl rfl rfl
      try dsimp only [putL, setL, evL, getL]
      refine HL_skip ?_ ?_
      · exact wantF (j := 8) (b := false) (t := 19) (c := true) rfl rfl rfl rfl rfl
      try dsimp only [putL, setL, evL, getL]
      refine HL_cons rfl ?_
      refine o_pickT rfl rfl ?_
      try dsimp only [putL, setL, evL, getL]
      refine HL_cons rfl ?_
      refine o_move ?_
      try dsimp only [putL, setL, evL, getL]
      refine HL_skip ?_ ?_
      · exact wantF (j := 15) (b := false) (t := 26) (c := true) rfl rfl rfl rfl rfl
      try dsimp only [putL, setL, evL, getL]
      refine HL_skip ?_ ?_
      · exact wantF (j := 15) (b := false) (t := 26) (c := true) rfl rfl rfl rfl rfl
      try dsimp only [putL, setL, evL, getL]
      refine HL_skip ?_ ?_
      · exact wantF (j := 15) (b := false) (t := 26) (c := true) rfl rfl rfl rfl rfl
      try dsimp only [putL, setL, evL, getL]
      refine HL_cons rfl ?_
      refine o_pickT rfl rfl ?_
      try dsimp only [putL, setL, evL, getL]
      refine HL_nil ?_
      exact hK24 _ _ ⟨true, H, rfl, hH⟩
    · replace H := iteF hb33 H
      refine HL_want ?_ ?_
      · exact wantT (j := 3) (b := false) (t := 14) (c := !u32) rfl rfl rfl rfl hb33
      refine o_move ?_
      try dsimp only [putL, setL, evL, getL]
      replace H := headE H
      obtain ⟨u34, hu34, H⟩ := H
      refine HL_want ?_ ?_
      · exact wantT (j := 3) (b := false) (t := 14) (c := !u32) rfl rfl rfl rfl hb33
      refine o_call (args := #[.slice A1p p1.length c1p]) Try.func119 rfl rfl rfl (spec_l1AllRunes.ok sb s32 no A1p c1p p1 HRp1 (Hp.own hH.bs) _ hu34) ?_
      rintro _ s34 ⟨rfl, hD⟩
      replace hH := hH.back0 hD (Up.refl _ _ _)
      clear hD
      dsimp only [addC, setC, rmC, selC, getC] at hH
      try dsimp only [putL, setL, evL, getL]
      refine HL_want ?_ ?_
      · exact wantT (j := 3) (b := false) (t := 14) (c := !u32) rfl rfl rfl rfl hb33
      refine o_not rfl ?_
      try dsimp only [putL, setL, evL, getL]
      refine HL_cons rfl ?_
      refine o_pickF rfl hb33 ?_
      try dsimp only [putL, setL, evL, getL]
      refine HL_cons rfl ?_
      refine o_move ?_
      try dsimp only [putL, setL, evL, getL]
      rcases Bool.eq_false_or_eq_true (!u34) with hb35 | hb35
      · replace H := iteT hb35 H
        refine HL_skip ?_ ?_
        · exact wantF (j := 8) (b := false) (t := 19) (c := !u34) rfl rfl rfl rfl hb35
        try dsimp only [putL, setL, evL, getL]
        refine HL_skip ?_ ?_
        · exact wantF (j := 8) (b := false) (t := 19) (c := !u34) rfl rfl rfl rfl hb35
        try dsimp only [putL, setL, evL, getL]
        refine HL_skip ?_ ?_
        · exact wantF (j := 8) (b := false) (t := 19) (c := !u34) rfl rfl rfl rfl hb35
        try dsimp only [putL, setL, evL, getL]
        refine HL_skip ?_ ?_
        · exact wantF (j := 8) (b := false) (t := 19) (c := !u34) rfl rfl rfl rfl hb35
        try dsimp only [putL, setL, evL, getL]
        refine HL_skip ?_ ?_
        · exact wantF (j := 8) (b := false) (t := 19) (c := !u34) rfl rfl rfl rfl hb35
        try dsimp only [putL, setL, evL, getL]
        refine HL_cons rfl ?_
        refine o_pickT rfl hb35 ?_
        try dsimp only [putL, setL, evL, getL]
        refine HL_cons rfl ?_
        refine o_move ?_
        try dsimp only [putL, setL, evL, getL]
        refine HL_skip ?_ ?_
        · exact wantF (j := 15) (b := false) (t := 26) (c := true) rfl rfl rfl rfl rfl
        try dsimp only [putL, setL, evL, getL]
        refine HL_skip ?_ ?_
        · exact wantF (j := 15) (b := false) (t := 26) (c := true) rfl rfl rfl rfl rfl
        try dsimp only [putL, setL, evL, getL]
        refine HL_skip ?_ ?_
        · exact wantF (j := 15) (b := false) (t := 26) (c := true) rfl rfl rfl rfl rfl
        try dsimp only [putL, setL, evL, getL]
        refine HL_cons rfl ?_
        refine o_pickT rfl rfl ?_
        try dsimp only [putL, setL, evL, getL]
        refine HL_nil ?_
        exact hK24 _ _ ⟨true, H, rfl, hH⟩
      · replace H := iteF hb35 H
        refine HL_want ?_ ?_
        · exact wantT (j := 8) (b := false) (t := 19) (c := !u34) rfl rfl rfl rfl hb35
        refine o_move ?_
        try dsimp only [putL, setL, evL, getL]
        refine HL_want ?_ ?_
        · exact wantT (j := 8) (b := false) (t := 19) (c := !u34) rfl rfl rfl rfl hb35
        refine o_len rfl Try.underlying24 ?_
        try dsimp only [putL, setL, evL, getL]
        refine HL_want ?_ ?_
        · exact wantT (j := 8) (b := false) (t := 19) (c := !u34) rfl rfl rfl rfl hb35
        refine o_move ?_
        try dsimp only [putL, setL, evL, getL]
        refine HL_want ?_ ?_
        · exact wantT (j := 8) (b := false) (t := 19) (c := !u34) rfl rfl rfl rfl hb35
        refine o_len rfl Try.underlying24 ?_
        try dsimp only [putL, setL, evL, getL]
        refine HL_want ?_ ?_
        · exact wantT (j := 8) (b := false) (t := 19) (c := !u34) rfl rfl rfl rfl hb35
        refine o_bin rfl rfl rfl ?_
        try dsimp only [putL, setL, evL, getL]
        refine HL_cons rfl ?_
        refine o_pickF rfl hb35 ?_
        try dsimp only [putL, setL, evL, getL]
        refine HL_cons rfl ?_
        refine o_move ?_
        try dsimp only [putL, setL, evL, getL]
        rcases Bool.eq_false_or_eq_true ((p2.length : Int) != (p1.length : Int)) with hb36 | hb36
        · replace H := iteT hb36 H
          refine HL_skip ?_ ?_
          · exact wantF (j := 15) (b := false) (t := 26) (c := (p2.length : Int) != (p1.length : Int)) rfl rfl rfl rfl hb36
          try dsimp only [putL, setL, evL, getL]
          refine HL_skip ?_ ?_
          · exact wantF (j := 15) (b := false) (t := 26) (c := (p2.length : Int) != (p1.length : Int)) rfl rfl rfl rfl hb36
          try dsimp only [putL, setL, evL, getL]
          refine HL_skip ?_ ?_
          · exact wantF (j := 15) (b := false) (t := 26) (c := (p2.length : Int) != (p1.length : Int)) rfl rfl rfl rfl hb36
          try dsimp only [putL, setL, evL, getL]
          refine HL_cons rfl ?_
          refine o_pickT rfl hb36 ?_
          try dsimp only [putL, setL, evL, getL]
          refine HL_nil ?_
          exact hK24 _ _ ⟨true, H, rfl, hH⟩
        · replace H := iteF hb36 H
          refine HL_want ?_ ?_
          · exact wantT (j := 15) (b := false) (t := 26) (c := (p2.length : Int) != (p1.length : Int)) rfl rfl rfl rfl hb36
          refine o_move ?_
          try dsimp only [putL, setL, evL, getL]
          replace H := headE H
          obtain ⟨u37, hu37, H⟩ := H
          refine HL_want ?_ ?_
          · exact wantT (j := 15) (b := false) (t := 26) (c := (p2.length : Int) != (p1.length : Int)) rfl rfl rfl rfl hb36
          refine o_call (args := #[.slice A2p p2.length c2p, .int .i64 1, .int .i64 1000]) Try.func120 rfl rfl rfl (spec_l1All.ok sb s34 no A2p c2p p2 1 1000 HRp2 (Hp.own hH.bs) _ hu37) ?_
          rintro _ s37 ⟨rfl, hD⟩
          replace hH := hH.back0 hD (Up.refl _ _ _)
          clear hD
          dsimp only [addC, setC, rmC, selC, getC] at hH
          try dsimp only [putL, setL, evL, getL]
          refine HL_want ?_ ?_
          · exact wantT (j := 15) (b := false) (t := 26) (c := (p2.length : Int) != (p1.length : Int)) rfl rfl rfl rfl hb36
          refine o_not rfl ?_
          try dsimp only [putL, setL, evL, getL]
          refine HL_cons rfl ?_
          refine o_pickF rfl hb36 ?_
          try dsimp only [putL, setL, evL, getL]
          refine HL_nil ?_
          exact hK24 _ _ ⟨!u37, H, rfl, hH⟩
  · rintro l' s38 ⟨x31, H, hl, hH⟩
    generalize getL l' 11 = j11, getL l' 12 = j12, getL l' 13 = j13, getL l' 14 = j14, getL l' 15 = j15, getL l' 16 = j16, getL l' 17 = j17, getL l' 18 = j18, getL l' 19 = j19, getL l' 20 = j20, getL l' 21 = j21, getL l' 22 = j22, getL l' 23 = j23, getL l' 24 = j24, getL l' 25 = j25, getL l' 26 = j26, getL l' 27 = j27, getL l' 28 = j28, getL l' 29 = j29 at hl
    subst hl
    replace H := hG24 _ H
    try dsimp only at H
    rcases Bool.eq_false_or_eq_true x31 with hb39 | hb39
    · replace H := iteT hb39 H
      refine HT_true (congrArg Value.bool hb39) ?_
      refine HT_seq_k ?_
      intro K40 hK40
      refine HT_region ?_
      refine HL_cons rfl ?_
      refine o_build (pl := [(0, 1), (1, 1), (2, 1), (3, 1)]) (cs := #[.int .i64 0, .slice none 0 0, .slice none 0 0, .int .i64 0]) Try.underlying37 tI37 (by kernel_rfl) (by kernel_rfl) rfl ?_
      try dsimp only [putL, setL, evL, getL]
      refine HL_cons rfl ?_
      refine o_stvH (vs := [.int .i64 0, .slice none 0 0, .slice none 0 0, .int .i64 0]) (us' := [.int .i64 0, .slice none 0 0, .slice none 0 0, .int .i64 0]) hH 1 rfl rfl rfl rfl rfl tI37 rfl (List.cons_ne_nil _ _) rfl rfl rfl ?_
      intro s41 hH'
      replace hH : Hp sb s F0 s41 [Ck.ov b2 [.int .i64 p0_0, .slice A0_1p p0_1.length c0_1p, .slice A0_2p p0_2.length c0_2p, .int .i64 p0_3] 37, Ck.ov b3 [.int .i64 0, .slice none 0 0, .slice none 0 0, .int .i64 0] 37] := hH'
      clear hH'
      try dsimp only [putL, setL, evL, getL]
      refine HL_cons rfl ?_
      refine o_assign ?_
      try dsimp only [putL, setL, evL, getL]
      refine HL_cons rfl ?_
      refine o_assign ?_
      try dsimp only [putL, setL, evL, getL]
      refine HL_nil ?_
      refine hK40 _ _ ?_
      refine HT_ret ?_
      exact hQr _ _ [.agg #[.int .i64 0, .slice none 0 0, .slice none 0 0, .int .i64 0], .slice none 0 0, .bool false] ⟨ResV.cells rfl Try.underlying37 rfl tI37 (hH.var 1 rfl) rfl, rfl, rfl, trivial⟩ (retH (fun r => spec_PutBuf.post sb s F0 r _ _) (show some _ = some r from H) ⟨none, 0, none, 0, none, 0, rfl, (((hH.nil (K := KI) OI 3).nil (K := KI) OI 3).nil (K := KI) OI 3).sel [2, 3, 4] (by decide)⟩)
    · replace H := iteF hb39 H
      refine HT_false (congrArg Value.bool hb39) ?_
      refine HT_skip ?_
      refine hK23 _ _ ?_
      refine HT_seq_k ?_
      intro K42 hK42
      refine HT_region ?_
      refine HL_cons rfl ?_
      refine o_loads' [.int .i64 p0_0, .slice A0_1p p0_1.length c0_1p, .slice A0_2p p0_2.length c0_2p, .int .i64 p0_3] rfl Try.underlying37 rfl tI37 rfl (hH.partv 0 rfl (0) [.int .i64 p0_0, .slice A0_1p p0_1.length c0_1p, .slice A0_2p p0_2.length c0_2p, .int .i64 p0_3] rfl) ?_
      try dsimp only [putL, setL, evL, getL]
      refine HL_cons rfl ?_
      refine o_move ?_
      try dsimp only [putL, setL, evL, getL]
      refine HL_cons rfl ?_
      refine o_move ?_
      try dsimp only [putL, setL, evL, getL]
      replace H := headE H
      obtain ⟨u43, hu43, H⟩ := H
      refine HL_cons rfl ?_
      refine o_call (args := #[.agg #[.int .i64 p0_0, .slice A0_1p p0_1.length c0_1p, .slice A0_2p p0_2.length c0_2p, .int .i64 p0_3], .slice A1p p1.length c1p, .slice A2p p2.length c2p]) Try.func121 rfl rfl rfl (spec_l10Put.ok sb s38 no p0_0 A0_1p c0_1p p0_1 A0_2p c0_2p p0_2 p0_3 A1p c1p p1 A2p c2p p2 HRp0_1 HRp0_2 HRp1 HRp2 (Hp.own hH.bs) _ hu43) ?_
      rintro _ s43 ⟨A44, c44, A45, c45, A46, c46, rfl, hD⟩
      replace hH := hH.back0 hD (Up.refl _ _ _)
      clear hD
      dsimp only [addC, setC, rmC, selC, getC] at hH
      try dsimp only [putL, setL, evL, getL]
      refine HL_cons rfl ?_
      refine o_move ?_
      try dsimp only [putL, setL, evL, getL]
      refine HL_cons rfl ?_
      refine o_extract rfl rfl ?_
      try dsimp only [putL, setL, evL, getL]
      refine HL_cons rfl ?_
      refine o_extract rfl rfl ?_
      try dsimp only [putL, setL, evL, getL]
      refine HL_cons rfl ?_
      refine o_allocH hH tI37 ?_
      intro b47 s47 hH' hG
      replace hH : Hp sb s F0 s47 [Ck.ov b2 [.int .i64 p0_0, .slice A0_1p p0_1.length c0_1p, .slice A0_2p p0_2.length c0_2p, .int .i64 p0_3] 37, Ck.ov b3 [.int .i64 0, .slice none 0 0, .slice none 0 0, .int .i64 0] 37, Ck.ol OI 3 A44 c44 u43.2.1, Ck.ol OI 3 A45 c45 u43.2.2.1, Ck.ol OI 3 A46 c46 u43.2.2.2.2, Ck.ov b47 [.int .i64 0, .slice none 0 0, .slice none 0 0, .int .i64 0] 37] := hH'
      clear hH' hG
      try dsimp only [putL, setL, evL, getL]
      refine HL_cons rfl ?_
      refine o_stvH (vs := [.int .i64 u43.1, .slice A44 u43.2.1.length c44, .slice A45 u43.2.2.1.length c45, .int .i64 u43.2.2.2.1]) (us' := [.int .i64 u43.1, .slice A44 u43.2.1.length c44, .slice A45 u43.2.2.1.length c45, .int .i64 u43.2.2.2.1]) hH 5 rfl rfl rfl rfl rfl tI37 rfl (List.cons_ne_nil _ _) rfl rfl rfl ?_
      intro s48 hH'
      replace hH : Hp sb s F0 s48 [Ck.ov b2 [.int .i64 p0_0, .slice A0_1p p0_1.length c0_1p, .slice A0_2p p0_2.length c0_2p, .int .i64 p0_3] 37, Ck.ov b3 [.int .i64 0, .slice none 0 0, .slice none 0 0, .int .i64 0] 37, Ck.ol OI 3 A44 c44 u43.2.1, Ck.ol OI 3 A45 c45 u43.2.2.1, Ck.ol OI 3 A46 c46 u43.2.2.2.2, Ck.ov b47 [.int .i64 u43.1, .slice A44 u43.2.1.length c44, .slice A45 u43.2.2.1.length c45, .int .i64 u43.2.2.2.1] 37] := hH'
      clear hH'
      try dsimp only [putL, setL, evL, getL]
      refine HL_cons rfl ?_
      refine o_assign ?_
      try dsimp only [putL, setL, evL, getL]
      refine HL_nil ?_
      refine hK42 _ _ ?_
      refine HT_seq_k ?_
      intro K49 hK49
      refine HT_seq_k ?_
      intro K50 hK50
      refine HT_region ?_
      refine HL_cons rfl ?_
      refine o_loads' [.int .i64 u43.1, .slice A44 u43.2.1.length c44, .slice A45 u43.2.2.1.length c45, .int .i64 u43.2.2.2.1] rfl Try.underlying37 rfl tI37 rfl (hH.partv 5 rfl (0) [.int .i64 u43.1, .slice A44 u43.2.1.length c44, .slice A45 u43.2.2.1.length c45, .int .i64 u43.2.2.2.1] rfl) ?_
      try dsimp only [putL, setL, evL, getL]
      replace H := headE H
      obtain ⟨u51, hu51, H⟩ := H
      refine HL_cons rfl ?_
      refine o_call (args := #[.agg #[.int .i64 u43.1, .slice A44 u43.2.1.length c44, .slice A45 u43.2.2.1.length c45, .int .i64 u43.2.2.2.1]]) Try.func29 rfl rfl rfl (spec_GoodBuf.ok s48 s48 no u43.1 A44 c44 u43.2.1 A45 c45 u43.2.2.1 u43.2.2.2.1 (hH.rd 2 rfl) (hH.rd 3 rfl) (Hp.own (Bs.refl s48)) _ hu51) ?_
      rintro _ s51 ⟨rfl, hD⟩
      replace hH := hH.back0T hD
      clear hD
      dsimp only [addC, setC, rmC, selC, getC] at hH
      try dsimp only [putL, setL, evL, getL]
      refine HL_cons rfl ?_
      refine o_not rfl ?_
      try dsimp only [putL, setL, evL, getL]
      refine HL_nil ?_
      refine hK50 _ _ ?_
      rcases Bool.eq_false_or_eq_true (!u51) with hb52 | hb52
      · replace H := iteT hb52 H
        refine HT_true (congrArg Value.bool hb52) ?_
        refine HT_seq_k ?_
        intro K53 hK53
        refine HT_region ?_
        refine HL_cons rfl ?_
        refine o_build (pl := [(0, 1), (1, 1), (2, 1), (3, 1)]) (cs := #[.int .i64 0, .slice none 0 0, .slice none 0 0, .int .i64 0]) Try.underlying37 tI37 (by kernel_rfl) (by kernel_rfl) rfl ?_
        try dsimp only [putL, setL, evL, getL]
        refine HL_cons rfl ?_
        refine o_stvH (vs := [.int .i64 0, .slice none 0 0, .slice none 0 0, .int .i64 0]) (us' := [.int .i64 0, .slice none 0 0, .slice none 0 0, .int .i64 0]) hH 1 rfl rfl rfl rfl rfl tI37 rfl (List.cons_ne_nil _ _) rfl rfl rfl ?_
        intro s54 hH'
        replace hH : Hp sb s F0 s54 [Ck.ov b2 [.int .i64 p0_0, .slice A0_1p p0_1.length c0_1p, .slice A0_2p p0_2.length c0_2p, .int .i64 p0_3] 37, Ck.ov b3 [.int .i64 0, .slice none 0 0, .slice none 0 0, .int .i64 0] 37, Ck.ol OI 3 A44 c44 u43.2.1, Ck.ol OI 3 A45 c45 u43.2.2.1, Ck.ol OI 3 A46 c46 u43.2.2.2.2, Ck.ov b47 [.int .i64 u43.1, .slice A44 u43.2.1.length c44, .slice A45 u43.2.2.1.length c45, .int .i64 u43.2.2.2.1] 37] := hH'
        clear hH'
        try dsimp only [putL, setL, evL, getL]
        refine HL_cons rfl ?_
        refine o_assign ?_
        try dsimp only [putL, setL, evL, getL]
        refine HL_cons rfl ?_
        refine o_assign ?_
        try dsimp only [putL, setL, evL, getL]
        refine HL_nil ?_
        refine hK53 _ _ ?_
        refine HT_ret ?_
        exact hQr _ _ [.agg #[.int .i64 0, .slice none 0 0, .slice none 0 0, .int .i64 0], .slice none 0 0, .bool false] ⟨ResV.cells rfl Try.underlying37 rfl tI37 (hH.var 1 rfl) rfl, rfl, rfl, trivial⟩ (retH (fun r => spec_PutBuf.post sb s F0 r _ _) (show some _ = some r from H) ⟨none, 0, none, 0, none, 0, rfl, (((hH.nil (K := KI) OI 3).nil (K := KI) OI 3).nil (K := KI) OI 3).sel [6, 7, 8] (by decide)⟩)
      · replace H := iteF hb52 H
        refine HT_false (congrArg Value.bool hb52) ?_
        refine HT_skip ?_
        refine hK49 _ _ ?_
        refine HT_seq_k ?_
        intro K55 hK55
        refine HT_region ?_
        refine HL_cons rfl ?_
        refine o_loads' [.int .i64 u43.1, .slice A44 u43.2.1.length c44, .slice A45 u43.2.2.1.length c45, .int .i64 u43.2.2.2.1] rfl Try.underlying37 rfl tI37 rfl (hH.partv 5 rfl (0) [.int .i64 u43.1, .slice A44 u43.2.1.length c44, .slice A45 u43.2.2.1.length c45, .int .i64 u43.2.2.2.1] rfl) ?_
        try dsimp only [putL, setL, evL, getL]
        refine HL_cons rfl ?_
        refine o_move ?_
        try dsimp only [putL, setL, evL, getL]
        refine HL_cons rfl ?_
        refine o_stvH (vs := [.int .i64 u43.1, .slice A44 u43.2.1.length c44, .slice A45 u43.2.2.1.length c45, .int .i64 u43.2.2.2.1]) (us' := [.int .i64 u43.1, .slice A44 u43.2.1.length c44, .slice A45 u43.2.2.1.length c45, .int .i64 u43.2.2.2.1]) hH 1 rfl rfl rfl rfl rfl tI37 rfl (List.cons_ne_nil _ _) rfl rfl rfl ?_
        intro s56 hH'
        replace hH : Hp sb s F0 s56 [Ck.ov b2 [.int .i64 p0_0, .slice A0_1p p0_1.length c0_1p, .slice A0_2p p0_2.length c0_2p, .int .i64 p0_3] 37, Ck.ov b3 [.int .i64 u43.1, .slice A44 u43.2.1.length c44, .slice A45 u43.2.2.1.length c45, .int .i64 u43.2.2.2.1] 37, Ck.ol OI 3 A44 c44 u43.2.1, Ck.ol OI 3 A45 c45 u43.2.2.1, Ck.ol OI 3 A46 c46 u43.2.2.2.2, Ck.ov b47 [.int .i64 u43.1, .slice A44 u43.2.1.length c44, .slice A45 u43.2.2.1.length c45, .int .i64 u43.2.2.2.1] 37] := hH'
        clear hH'
        try dsimp only [putL, setL, evL, getL]
        refine HL_cons rfl ?_
        refine o_assign ?_
        try dsimp only [putL, setL, evL, getL]
        refine HL_cons rfl ?_
        refine o_assign ?_
        try dsimp only [putL, setL, evL, getL]
        refine HL_nil ?_
        refine hK55 _ _ ?_
        refine HT_ret ?_
        exact hQr _ _ [.agg #[.int .i64 u43.1, .slice A44 u43.2.1.length c44, .slice A45 u43.2.2.1.length c45, .int .i64 u43.2.2.2.1], .slice A46 u43.2.2.2.2.length c46, .bool true] ⟨ResV.cells rfl Try.underlying37 rfl tI37 (hH.var 1 rfl) rfl, rfl, rfl, trivial⟩ (retH (fun r => spec_PutBuf.post sb s F0 r _ _) (show some _ = some r from H) ⟨A44, c44, A45, c45, A46, c46, rfl, hH.sel [2, 3, 4] (by decide)⟩)
def laws_sameInts.l1 (p0 : List (Int)) (p1 : List (Int)) : Nat → Int → Option (Lo Unit Bool)
  | 0, _ => none
  | kf + 1, x52 => if (decide (x52 < (p0.length : Int))) = true then ((rd? p0 x52).bind fun u71 => (rd? p1 x52).bind fun u72 => if (u71 != u72) = true then ((some false).bind fun z => some (Lo.ret z)) else (laws_sameInts.l1 p0 p1 kf (IntKind.i64.wrap (x52 + 1)))) else (some (Lo.go ()))
def laws_sameInts.f (p0 : List (Int)) (p1 : List (Int)) : Option Bool := if ((p0.length : Int) != (p1.length : Int)) = true then (some false) else ((laws_sameInts.l1 p0 p1 ((((p0.length : Int)) - (0)).toNat + 2) 0).bind fun (o : Lo Unit Bool) => match o with | .go () => (some true) | .ret z => some z)
def laws_sameInts.post (sb s : St) (F0 : Fp) (r : Bool) : Value → St → Prop := fun v s' => v = .bool r ∧ Hp sb s F0 s' []
set_option maxRecDepth 100000 in
set_option maxHeartbeats 4000000 in
theorem laws_sameInts.ok (sb s : St) (F0 : Fp) (A0p : Option Addr) (c0p : Nat) (p0 : List (Int)) (A1p : Option Addr) (c1p : Nat) (p1 : List (Int)) (HRp0 : Rd KI sb A0p c0p p0) (HRp1 : Rd KI sb A1p c1p p1) (hH : Hp sb s F0 s []) (r : Bool) (H : laws_sameInts.f p0 p1 = some r) : GCall Try.prog 18 #[.slice A0p p0.length c0p, .slice A1p p1.length c1p] s (laws_sameInts.post sb s F0 r) := by
  refine GCall_ofk [.tmp 4] [.slice A0p p0.length c0p, .slice A1p p1.length c1p, undef, undef, undef, undef, undef, undef, undef, undef, undef, undef, undef, undef, undef, undef, undef, undef, undef, undef, undef, undef, undef, undef, undef, undef] Try.func18 rfl rfl rfl ?_
  intro w Q hQr hQn hQp
  replace H := topE H
  unfold laws_sameInts.f at H
  refine HT_seq_k ?_
  intro K1 hK1
  refine HT_region ?_
  refine HL_cons rfl ?_
  refine o_assign ?_
  try dsimp only [putL, setL, evL, getL]
  refine HL_nil ?_
  refine hK1 _ _ ?_
  refine HT_seq_k ?_
  intro K2 hK2
  refine HT_seq_k ?_
  intro K3 hK3
  refine HT_region ?_
  refine HL_cons rfl ?_
  refine o_move ?_
  try dsimp only [putL, setL, evL, getL]
  refine HL_cons rfl ?_
  refine o_len rfl Try.underlying24 ?_
  try dsimp only [putL, setL, evL, getL]
  refine HL_cons rfl ?_
  refine o_move ?_
  try dsimp only [putL, setL, evL, getL]
  refine HL_cons rfl ?_
  refine o_len rfl Try.underlying24 ?_
  try dsimp only [putL, setL, evL, getL]
  refine HL_cons rfl ?_
  refine o_bin rfl rfl rfl ?_
  try dsimp only [putL, setL, evL, getL]
  refine HL_nil ?_
  refine hK3 _ _ ?_
  rcases Bool.eq_false_or_eq_true ((p0.length : Int) != (p1.length : Int)) with hb4 | hb4
  · replace H := iteT hb4 H
    refine HT_true (congrArg Value.bool hb4) ?_
    refine HT_seq_k ?_
    intro K5 hK5
    refine HT_region ?_
    refine HL_cons rfl ?_
    refine o_assign ?_
    try dsimp only [putL, setL, evL, getL]
    refine HL_nil ?_
    refine hK5 _ _ ?_
    refine HT_ret ?_
    exact hQr _ _ [.bool false] ⟨rfl, trivial⟩ (retH (fun r => laws_sameInts.post sb s F0 r _ _) (show some _ = some r from H) ⟨rfl, hH⟩)
  · replace H := iteF hb4 H
    refine HT_false (congrArg Value.bool hb4) ?_
    refine HT_skip ?_
    refine hK2 _ _ ?_
    refine HT_seq_k ?_
    intro K6 hK6
    refine HT_seq_k ?_
    intro K7 hK7
    refine HT_region ?_
    refine HL_cons rfl ?_
    refine o_move ?_
    try dsimp only [putL, setL, evL, getL]
    refine HL_cons rfl ?_
    refine o_len rfl Try.underlying24 ?_
    try dsimp only [putL, setL, evL, getL]
    refine HL_cons rfl ?_
    refine o_move ?_
    try dsimp only [putL, setL, evL, getL]
    refine HL_nil ?_
    refine hK7 _ _ ?_
    refine joinH H fun G8 hG8 H => ?_
    refine HT_toK (fun l' s' => G8 (.go ()) = some r ∧ l' = [.slice A0p p0.length c0p, .slice A1p p1.length c1p, undef, undef, getL l' 4, getL l' 5, .slice A0p p0.length c0p, .int .i64 (p0.length : Int), .slice A1p p1.length c1p, .int .i64 (p1.length : Int), .bool ((p0.length : Int) != (p1.length : Int)), .slice A0p p0.length c0p, .int .i64 (p0.length : Int), getL l' 13, getL l' 14, getL l' 15, getL l' 16, getL l' 17, getL l' 18, getL l' 19, getL l' 20, getL l' 21, getL l' 22, getL l' 23, getL l' 24, getL l' 25] ∧ Hp sb s F0 s' []) ?_ ?_
    · intro K8 hK8
      refine HT_block ?_
      refine HT_loopK (fun kf l' s' => ∃ (x52 : Int), (laws_sameInts.l1 p0 p1 kf x52).bind G8 = some r ∧ l' = [.slice A0p p0.length c0p, .slice A1p p1.length c1p, undef, undef, getL l' 4, getL l' 5, .slice A0p p0.length c0p, .int .i64 (p0.length : Int), .slice A1p p1.length c1p, .int .i64 (p1.length : Int), .bool ((p0.length : Int) != (p1.length : Int)), .slice A0p p0.length c0p, .int .i64 (p0.length : Int), .int .i64 x52, getL l' 14, getL l' 15, getL l' 16, getL l' 17, getL l' 18, getL l' 19, getL l' 20, getL l' 21, getL l' 22, getL l' 23, getL l' 24, getL l' 25] ∧ Hp sb s F0 s' []) ((((p0.length : Int)) - (0)).toNat + 2) ⟨0, H, rfl, hH⟩ ?_
      rintro kf l' s64 ⟨x52, H, hl, hH⟩ K64 hK64
      generalize getL l' 4 = j4, getL l' 5 = j5, getL l' 14 = j14, getL l' 15 = j15, getL l' 16 = j16, getL l' 17 = j17, getL l' 18 = j18, getL l' 19 = j19, getL l' 20 = j20, getL l' 21 = j21, getL l' 22 = j22, getL l' 23 = j23, getL l' 24 = j24, getL l' 25 = j25 at hl
      subst hl
      cases kf with
      | zero => simp [laws_sameInts.l1] at H
      | succ kf =>
        rw [laws_sameInts.l1] at H
        refine HT_seq_k ?_
        intro K65 hK65
        refine HT_region ?_
        refine HL_cons rfl ?_
        refine o_bin rfl rfl rfl ?_
        try dsimp only [putL, setL, evL, getL]
        refine HL_nil ?_
        refine hK65 _ _ ?_
        refine HT_seq_k ?_
        intro K66 hK66
        rcases Bool.eq_false_or_eq_true (decide (x52 < (p0.length : Int))) with hb67 | hb67
        · replace H := iteT hb67 H
          refine HT_true (congrArg Value.bool hb67) ?_
          refine HT_skip ?_
          refine hK66 _ _ ?_
          refine HT_seq_k ?_
          intro K68 hK68
          refine HT_block ?_
          refine HT_seq_k ?_
          intro K69 hK69
          refine HT_region ?_
          refine HL_cons rfl ?_
          refine o_move ?_
          try dsimp only [putL, setL, evL, getL]
          refine HL_cons rfl ?_
          refine o_assign ?_
          try dsimp only [putL, setL, evL, getL]
          refine HL_nil ?_
          refine hK69 _ _ ?_
          refine HT_seq_k ?_
          intro K70 hK70
          refine HX_draw hMix ?_
          refine HX_lim (R := fun _ => True) (k := 0) (fun s' => Gro s64 s') 10 ?_
          have hR := Gro.refl s64
          have hH0 := hH
          refine HK_readP 0 (v := .slice A0p p0.length c0p) rfl (by kernel_rfl) (fun c l s h => hQp c l s h) rfl (fun s' K hK => ?_) rfl rfl (fun _ => hR) ?_
          · refine o_move ?_
            exact hK
          try dsimp only [putL, setL, evL, getL]
          refine HK_readP 1 (v := .int .i64 x52) rfl (by kernel_rfl) (fun c l s h => hQp c l s h) rfl (fun s' K hK => ?_) rfl rfl (fun _ => hR) ?_
          · refine o_move ?_
            exact hK
          try dsimp only [putL, setL, evL, getL]
          replace H := headE H
          obtain ⟨u71, hu71, H⟩ := H
          obtain ⟨b71, o71, cs71, hr71, hh71, hel71⟩ := Rd.elb HRp0 hu71
          obtain rfl := hr71
          refine HK_readP 2 (v := .pointer (some ⟨b71, o71, none⟩)) rfl (by kernel_rfl) (fun c l s h => hQp c l s h) rfl (fun s' K hK => ?_) rfl rfl (fun _ => hR) ?_
          · refine hel71 s' rfl rfl Try.underlying24 tI3 ?_
            exact hK
          try dsimp only [putL, setL, evL, getL]
          refine HK_read 3 (v := .int .i64 u71) rfl (by kernel_rfl) (fun c l s h => hQp c l s h) rfl (fun s' hR' K hK => ?_) rfl rfl hR ?_
          · refine o_load' rfl Try.underlying3 rfl ((hh71 (hH0.bs.mono.trans hR'.mono)) 0 _ rfl) ?_
            exact hK
          try dsimp only [putL, setL, evL, getL]
          refine HK_readP 4 (v := .slice A1p p1.length c1p) rfl (by kernel_rfl) (fun c l s h => hQp c l s h) rfl (fun s' K hK => ?_) rfl rfl (fun _ => hR) ?_
          · refine o_move ?_
            exact hK
          try dsimp only [putL, setL, evL, getL]
          refine HK_readP 5 (v := .int .i64 x52) rfl (by kernel_rfl) (fun c l s h => hQp c l s h) rfl (fun s' K hK => ?_) rfl rfl (fun _ => hR) ?_
          · refine o_move ?_
            exact hK
          try dsimp only [putL, setL, evL, getL]
          replace H := headE H
          obtain ⟨u72, hu72, H⟩ := H
          obtain ⟨b72, o72, cs72, hr72, hh72, hel72⟩ := Rd.elb HRp1 hu72
          obtain rfl := hr72
          refine HK_readP 6 (v := .pointer (some ⟨b72, o72, none⟩)) rfl (by kernel_rfl) (fun c l s h => hQp c l s h) rfl (fun s' K hK => ?_) rfl rfl (fun _ => hR) ?_
          · refine hel72 s' rfl rfl Try.underlying24 tI3 ?_
            exact hK
          try dsimp only [putL, setL, evL, getL]
          refine HK_read 7 (v := .int .i64 u72) rfl (by kernel_rfl) (fun c l s h => hQp c l s h) rfl (fun s' hR' K hK => ?_) rfl rfl hR ?_
          · refine o_load' rfl Try.underlying3 rfl ((hh72 (hH0.bs.mono.trans hR'.mono)) 0 _ rfl) ?_
            exact hK
          try dsimp only [putL, setL, evL, getL]
          refine HK_readP 8 (v := .bool (u71 != u72)) rfl (by kernel_rfl) (fun c l s h => hQp c l s h) rfl (fun s' K hK => ?_) rfl rfl (fun _ => hR) ?_
          · refine o_bin rfl rfl rfl ?_
            exact hK
          try dsimp only [putL, setL, evL, getL]
          refine HK_done (fun _ => hR) (by kernel_rfl) ?_
          refine hK70 _ _ ?_
          rcases Bool.eq_false_or_eq_true (u71 != u72) with hb73 | hb73
          · replace H := iteT hb73 H
            refine HT_true (congrArg Value.bool hb73) ?_
            refine HT_seq_k ?_
            intro K74 hK74
            refine HT_region ?_
            refine HL_cons rfl ?_
            refine o_assign ?_
            try dsimp only [putL, setL, evL, getL]
            refine HL_nil ?_
            refine hK74 _ _ ?_
            refine HT_ret ?_
            replace H := escH (fun z hz => hG8 _ hz) H
            exact hQr _ _ [.bool false] ⟨rfl, trivial⟩ (retH (fun r => laws_sameInts.post sb s F0 r _ _) (show some _ = some r from H) ⟨rfl, hH⟩)
          · replace H := iteF hb73 H
            refine HT_false (congrArg Value.bool hb73) ?_
            refine HT_skip ?_
            refine hK68 _ _ ?_
            refine HT_region ?_
            refine HL_cons rfl ?_
            refine o_bin rfl rfl rfl ?_
            try dsimp only [putL, setL, evL, getL]
            refine HL_cons rfl ?_
            refine o_move ?_
            try dsimp only [putL, setL, evL, getL]
            refine HL_nil ?_
            exact hK64 _ _ ⟨kf, Nat.lt_succ_self kf, IntKind.i64.wrap (x52 + 1), H, rfl, hH⟩
        · replace H := iteF hb67 H
          refine HT_false (congrArg Value.bool hb67) ?_
          refine HT_exit ?_
          exact hK8 _ _ ⟨H, rfl, hH⟩
    · rintro l' s75 ⟨H, hl, hH⟩
      generalize getL l' 4 = j4, getL l' 5 = j5, getL l' 13 = j13, getL l' 14 = j14, getL l' 15 = j15, getL l' 16 = j16, getL l' 17 = j17, getL l' 18 = j18, getL l' 19 = j19, getL l' 20 = j20, getL l' 21 = j21, getL l' 22 = j22, getL l' 23 = j23, getL l' 24 = j24, getL l' 25 = j25 at hl
      subst hl
      replace H := hG8 _ H
      try dsimp only at H
      refine hK6 _ _ ?_
      refine HT_seq_k ?_
      intro K76 hK76
      refine HT_region ?_
      refine HL_cons rfl ?_
      refine o_assign ?_
      try dsimp only [putL, setL, evL, getL]
      refine HL_nil ?_
      refine hK76 _ _ ?_
      refine HT_ret ?_
      exact hQr _ _ [.bool true] ⟨rfl, trivial⟩ (retH (fun r => laws_sameInts.post sb s F0 r _ _) (show some _ = some r from H) ⟨rfl, hH⟩)
def laws_sameBuf.f (p0_0 : Int) (p0_1 : List (Int)) (p0_2 : List (Int)) (p0_3 : Int) (p1_0 : Int) (p1_1 : List (Int)) (p1_2 : List (Int)) (p1_3 : Int) : Option Bool := if (p0_0 == p1_0) = true then ((laws_sameInts.f p0_1 p1_1).bind fun u6 => if u6 = true then ((laws_sameInts.f p0_2 p1_2).bind fun u8 => if u8 = true then (some (p0_3 == p1_3)) else (some false)) else (some false)) else (some false)
def laws_sameBuf.post (sb s : St) (F0 : Fp) (r : Bool) : Value → St → Prop := fun v s' => v = .bool r ∧ Hp sb s F0 s' []
set_option maxRecDepth 100000 in
set_option maxHeartbeats 4000000 in
theorem laws_sameBuf.ok (sb s : St) (F0 : Fp) (p0_0 : Int) (A0_1p : Option Addr) (c0_1p : Nat) (p0_1 : List (Int)) (A0_2p : Option Addr) (c0_2p : Nat) (p0_2 : List (Int)) (p0_3 : Int) (p1_0 : Int) (A1_1p : Option Addr) (c1_1p : Nat) (p1_1 : List (Int)) (A1_2p : Option Addr) (c1_2p : Nat) (p1_2 : List (Int)) (p1_3 : Int) (HRp0_1 : Rd KI sb A0_1p c0_1p p0_1) (HRp0_2 : Rd KI sb A0_2p c0_2p p0_2) (HRp1_1 : Rd KI sb A1_1p c1_1p p1_1) (HRp1_2 : Rd KI sb A1_2p c1_2p p1_2) (hH : Hp sb s F0 s []) (r : Bool) (H : laws_sameBuf.f p0_0 p0_1 p0_2 p0_3 p1_0 p1_1 p1_2 p1_3 = some r) : GCall Try.prog 27 #[.agg #[.int .i64 p0_0, .slice A0_1p p0_1.length c0_1p, .slice A0_2p p0_2.length c0_2p, .int .i64 p0_3], .agg #[.int .i64 p1_0, .slice A1_1p p1_1.length c1_1p, .slice A1_2p p1_2.length c1_2p, .int .i64 p1_3]] s (laws_sameBuf.post sb s F0 r) := by
  refine GCall_ofk [.tmp 4] [.agg #[.int .i64 p0_0, .slice A0_1p p0_1.length c0_1p, .slice A0_2p p0_2.length c0_2p, .int .i64 p0_3], .agg #[.int .i64 p1_0, .slice A1_1p p1_1.length c1_1p, .slice A1_2p p1_2.length c1_2p, .int .i64 p1_3], undef, undef, undef, undef, undef, undef, undef, undef, undef, undef, undef, undef, undef, undef, undef, undef, undef, undef, undef, undef, undef, undef, undef, undef, undef, undef, undef, undef, undef] Try.func27 rfl rfl rfl ?_
  intro w Q hQr hQn hQp
  replace H := topE H
  unfold laws_sameBuf.f at H
  refine HT_seq_k ?_
  intro K1 hK1
  refine HT_region ?_
  refine HL_cons rfl ?_
  refine o_boxH hH rfl ?_
  intro b2 s2 hH' hG
  replace hH : Hp sb s F0 s2 [Ck.ov b2 [.int .i64 p0_0, .slice A0_1p p0_1.length c0_1p, .slice A0_2p p0_2.length c0_2p, .int .i64 p0_3] 37] := hH'
  clear hH' hG
  try dsimp only [putL, setL, evL, getL]
  refine HL_cons rfl ?_
  refine o_boxH hH rfl ?_
  intro b3 s3 hH' hG
  replace hH : Hp sb s F0 s3 [Ck.ov b2 [.int .i64 p0_0, .slice A0_1p p0_1.length c0_1p, .slice A0_2p p0_2.length c0_2p, .int .i64 p0_3] 37, Ck.ov b3 [.int .i64 p1_0, .slice A1_1p p1_1.length c1_1p, .slice A1_2p p1_2.length c1_2p, .int .i64 p1_3] 37] := hH'
  clear hH' hG
  try dsimp only [putL, setL, evL, getL]
  refine HL_cons rfl ?_
  refine o_assign ?_
  try dsimp only [putL, setL, evL, getL]
  refine HL_nil ?_
  refine hK1 _ _ ?_
  refine HT_seq_k ?_
  intro K4 hK4
  refine HT_region ?_
  refine HL_cons rfl ?_
  refine o_faddr' (ft := 3) (off := 0) rfl Try.underlying37 rfl tI3 (by decide) ?_
  try dsimp only [putL, setL, evL, getL]
  refine HL_cons rfl ?_
  refine o_load' rfl Try.underlying3 rfl (hH.hasv 0 rfl rfl) ?_
  try dsimp only [putL, setL, evL, getL]
  refine HL_cons rfl ?_
  refine o_faddr' (ft := 3) (off := 0) rfl Try.underlying37 rfl tI3 (by decide) ?_
  try dsimp only [putL, setL, evL, getL]
  refine HL_cons rfl ?_
  refine o_load' rfl Try.underlying3 rfl (hH.hasv 1 rfl rfl) ?_
  try dsimp only [putL, setL, evL, getL]
  refine HL_cons rfl ?_
  refine o_bin rfl rfl rfl ?_
  try dsimp only [putL, setL, evL, getL]
  refine HL_cons rfl ?_
  refine o_move ?_
  try dsimp only [putL, setL, evL, getL]
  rcases Bool.eq_false_or_eq_true (p0_0 == p1_0) with hb5 | hb5
  · replace H := iteT hb5 H
    refine HL_want ?_ ?_
    · exact wantT (j := 5) (b := true) (t := 10) (c := p0_0 == p1_0) rfl rfl rfl rfl hb5
    refine o_faddr' (ft := 24) (off := 1) rfl Try.underlying37 rfl tI24 (by decide) ?_
    try dsimp only [putL, setL, evL, getL]
    refine HL_want ?_ ?_
    · exact wantT (j := 5) (b := true) (t := 10) (c := p0_0 == p1_0) rfl rfl rfl rfl hb5
    refine o_load' rfl Try.underlying24 rfl (hH.hasv 0 rfl rfl) ?_
    try dsimp only [putL, setL, evL, getL]
    refine HL_want ?_ ?_
    · exact wantT (j := 5) (b := true) (t := 10) (c := p0_0 == p1_0) rfl rfl rfl rfl hb5
    refine o_faddr' (ft := 24) (off := 1) rfl Try.underlying37 rfl tI24 (by decide) ?_
    try dsimp only [putL, setL, evL, getL]
    refine HL_want ?_ ?_
    · exact wantT (j := 5) (b := true) (t := 10) (c := p0_0 == p1_0) rfl rfl rfl rfl hb5
    refine o_load' rfl Try.underlying24 rfl (hH.hasv 1 rfl rfl) ?_
    try dsimp only [putL, setL, evL, getL]
    replace H := headE H
    obtain ⟨u6, hu6, H⟩ := H
    refine HL_want ?_ ?_
    · exact wantT (j := 5) (b := true) (t := 10) (c := p0_0 == p1_0) rfl rfl rfl rfl hb5
    refine o_call (args := #[.slice A0_1p p0_1.length c0_1p, .slice A1_1p p1_1.length c1_1p]) Try.func18 rfl rfl rfl (laws_sameInts.ok sb s3 no A0_1p c0_1p p0_1 A1_1p c1_1p p1_1 HRp0_1 HRp1_1 (Hp.own hH.bs) _ hu6) ?_
    rintro _ s6 ⟨rfl, hD⟩
    replace hH := hH.back0 hD (Up.refl _ _ _)
    clear hD
    dsimp only [addC, setC, rmC, selC, getC] at hH
    try dsimp only [putL, setL, evL, getL]
    refine HL_cons rfl ?_
    refine o_pickT rfl hb5 ?_
    try dsimp only [putL, setL, evL, getL]
    refine HL_cons rfl ?_
    refine o_move ?_
    try dsimp only [putL, setL, evL, getL]
    rcases Bool.eq_false_or_eq_true u6 with hb7 | hb7
    · replace H := iteT hb7 H
      refine HL_want ?_ ?_
      · exact wantT (j := 12) (b := true) (t := 17) (c := u6) rfl rfl rfl rfl hb7
      refine o_faddr' (ft := 24) (off := 2) rfl Try.underlying37 rfl tI24 (by decide) ?_
      try dsimp only [putL, setL, evL, getL]
      refine HL_want ?_ ?_
      · exact wantT (j := 12) (b := true) (t := 17) (c := u6) rfl rfl rfl rfl hb7
      refine o_load' rfl Try.underlying24 rfl (hH.hasv 0 rfl rfl) ?_
      try dsimp only [putL, setL, evL, getL]
      refine HL_want ?_ ?_
      · exact wantT (j := 12) (b := true) (t := 17) (c := u6) rfl rfl rfl rfl hb7
      refine o_faddr' (ft := 24) (off := 2) rfl Try.underlying37 rfl tI24 (by decide) ?_
      try dsimp only [putL, setL, evL, getL]
      refine HL_want ?_ ?_
      · exact wantT (j := 12) (b := true) (t := 17) (c := u6) rfl rfl rfl rfl hb7
      refine o_load' rfl Try.underlying24 rfl (hH.hasv 1 rfl rfl) ?_
      try dsimp only [putL, setL, evL, getL]
      replace H := headE H
      obtain ⟨u8, hu8, H⟩ := H
      refine HL_want ?_ ?_
      · exact wantT (j := 12) (b := true) (t := 17) (c := u6) rfl rfl rfl rfl hb7
      refine o_call (args := #[.slice A0_2p p0_2.length c0_2p, .slice A1_2p p1_2.length c1_2p]) Try.func18 rfl rfl rfl (laws_sameInts.ok sb s6 no A0_2p c0_2p p0_2 A1_2p c1_2p p1_2 HRp0_2 HRp1_2 (Hp.own hH.bs) _ hu8) ?_
      rintro _ s8 ⟨rfl, hD⟩
      replace hH := hH.back0 hD (Up.refl _ _ _)
      clear hD
      dsimp only [addC, setC, rmC, selC, getC] at hH
      try dsimp only [putL, setL, evL, getL]
      refine HL_cons rfl ?_
      refine o_pickT rfl hb7 ?_
      try dsimp only [putL, setL, evL, getL]
      refine HL_cons rfl ?_
      refine o_move ?_
      try dsimp only [putL, setL, evL, getL]
      rcases Bool.eq_false_or_eq_true u8 with hb9 | hb9
      · replace H := iteT hb9 H
        refine HL_want ?_ ?_
        · exact wantT (j := 19) (b := true) (t := 24) (c := u8) rfl rfl rfl rfl hb9
        refine o_faddr' (ft := 3) (off := 3) rfl Try.underlying37 rfl tI3 (by decide) ?_
        try dsimp only [putL, setL, evL, getL]
        refine HL_want ?_ ?_
        · exact wantT (j := 19) (b := true) (t := 24) (c := u8) rfl rfl rfl rfl hb9
        refine o_load' rfl Try.underlying3 rfl (hH.hasv 0 rfl rfl) ?_
        try dsimp only [putL, setL, evL, getL]
        refine HL_want ?_ ?_
        · exact wantT (j := 19) (b := true) (t := 24) (c := u8) rfl rfl rfl rfl hb9
        refine o_faddr' (ft := 3) (off := 3) rfl Try.underlying37 rfl tI3 (by decide) ?_
        try dsimp only [putL, setL, evL, getL]
        refine HL_want ?_ ?_
        · exact wantT (j := 19) (b := true) (t := 24) (c := u8) rfl rfl rfl rfl hb9
        refine o_load' rfl Try.underlying3 rfl (hH.hasv 1 rfl rfl) ?_
        try dsimp only [putL, setL, evL, getL]
        refine HL_want ?_ ?_
        · exact wantT (j := 19) (b := true) (t := 24) (c := u8) rfl rfl rfl rfl hb9
        refine o_bin rfl rfl rfl ?_
        try dsimp only [putL, setL, evL, getL]
        refine HL_cons rfl ?_
        refine o_pickT rfl hb9 ?_
        try dsimp only [putL, setL, evL, getL]
        refine HL_cons rfl ?_
        refine o_assign ?_
        try dsimp only [putL, setL, evL, getL]
        refine HL_nil ?_
        refine hK4 _ _ ?_
        refine HT_ret ?_
        exact hQr _ _ [.bool (p0_3 == p1_3)] ⟨rfl, trivial⟩ (retH (fun r => laws_sameBuf.post sb s F0 r _ _) (show some _ = some r from H) ⟨rfl, hH.sel [] (by decide)⟩)
      · replace H := iteF hb9 H
        refine HL_skip ?_ ?_
        · exact wantF (j := 19) (b := true) (t := 24) (c := u8) rfl rfl rfl rfl hb9
        try dsimp only [putL, setL, evL, getL]
        refine HL_skip ?_ ?_
        · exact wantF (j := 19) (b := true) (t := 24) (c := u8) rfl rfl rfl rfl hb9
        try dsimp only [putL, setL, evL, getL]
        refine HL_skip ?_ ?_
        · exact wantF (j := 19) (b := true) (t := 24) (c := u8) rfl rfl rfl rfl hb9
        try dsimp only [putL, setL, evL, getL]
        refine HL_skip ?_ ?_
        · exact wantF (j := 19) (b := true) (t := 24) (c := u8) rfl rfl rfl rfl hb9
        try dsimp only [putL, setL, evL, getL]
        refine HL_skip ?_ ?_
        · exact wantF (j := 19) (b := true) (t := 24) (c := u8) rfl rfl rfl rfl hb9
        try dsimp only [putL, setL, evL, getL]
        refine HL_cons rfl ?_
        refine o_pickF rfl hb9 ?_
        try dsimp only [putL, setL, evL, getL]
        refine HL_cons rfl ?_
        refine o_assign ?_
        try dsimp only [putL, setL, evL, getL]
        refine HL_nil ?_
        refine hK4 _ _ ?_
        refine HT_ret ?_
        exact hQr _ _ [.bool false] ⟨rfl, trivial⟩ (retH (fun r => laws_sameBuf.post sb s F0 r _ _) (show some _ = some r from H) ⟨rfl, hH.sel [] (by decide)⟩)
    · replace H := iteF hb7 H
      refine HL_skip ?_ ?_
      · exact wantF (j := 12) (b := true) (t := 17) (c := u6) rfl rfl rfl rfl hb7
      try dsimp only [putL, setL, evL, getL]
      refine HL_skip ?_ ?_
      · exact wantF (j := 12) (b := true) (t := 17) (c := u6) rfl rfl rfl rfl hb7
      try dsimp only [putL, setL, evL, getL]
      refine HL_skip ?_ ?_
      · exact wantF (j := 12) (b := true) (t := 17) (c := u6) rfl rfl rfl rfl hb7
      try dsimp only [putL, setL, evL, getL]
      refine HL_skip ?_ ?_
      · exact wantF (j := 12) (b := true) (t := 17) (c := u6) rfl rfl rfl rfl hb7
      try dsimp only [putL, setL, evL, getL]
      refine HL_skip ?_ ?_
      · exact wantF (j := 12) (b := true) (t := 17) (c := u6) rfl rfl rfl rfl hb7
      try dsimp only [putL, setL, evL, getL]
      refine HL_cons rfl ?_
      refine o_pickF rfl hb7 ?_
      try dsimp only [putL, setL, evL, getL]
      refine HL_cons rfl ?_
      refine o_move ?_
      try dsimp only [putL, setL, evL, getL]
      refine HL_skip ?_ ?_
      · exact wantF (j := 19) (b := true) (t := 24) (c := false) rfl rfl rfl rfl rfl
      try dsimp only [putL, setL, evL, getL]
      refine HL_skip ?_ ?_
      · exact wantF (j := 19) (b := true) (t := 24) (c := false) rfl rfl rfl rfl rfl
      try dsimp only [putL, setL, evL, getL]
      refine HL_skip ?_ ?_
      · exact wantF (j := 19) (b := true) (t := 24) (c := false) rfl rfl rfl rfl rfl
      try dsimp only [putL, setL, evL, getL]
      refine HL_skip ?_ ?_
      · exact wantF (j := 19) (b := true) (t := 24) (c := false) rfl rfl rfl rfl rfl
      try dsimp only [putL, setL, evL, getL]
      refine HL_skip ?_ ?_
      · exact wantF (j := 19) (b := true) (t := 24) (c := false) rfl rfl rfl rfl rfl
      try dsimp only [putL, setL, evL, getL]
      refine HL_cons rfl ?_
      refine o_pickF rfl rfl ?_
      try dsimp only [putL, setL, evL, getL]
      refine HL_cons rfl ?_
      refine o_assign ?_
      try dsimp only [putL, setL, evL, getL]
      refine HL_nil ?_
      refine hK4 _ _ ?_
      refine HT_ret ?_
      exact hQr _ _ [.bool false] ⟨rfl, trivial⟩ (retH (fun r => laws_sameBuf.post sb s F0 r _ _) (show some _ = some r from H) ⟨rfl, hH.sel [] (by decide)⟩)
  · replace H := iteF hb5 H
    refine HL_skip ?_ ?_
    · exact wantF (j := 5) (b := true) (t := 10) (c := p0_0 == p1_0) rfl rfl rfl rfl hb5
    try dsimp only [putL, setL, evL, getL]
    refine HL_skip ?_ ?_
    · exact wantF (j := 5) (b := true) (t := 10) (c := p0_0 == p1_0) rfl rfl rfl rfl hb5
    try dsimp only [putL, setL, evL, getL]
    refine HL_skip ?_ ?_
    · exact wantF (j := 5) (b := true) (t := 10) (c := p0_0 == p1_0) rfl rfl rfl rfl hb5
    try dsimp only [putL, setL, evL, getL]
    refine HL_skip ?_ ?_
    · exact wantF (j := 5) (b := true) (t := 10) (c := p0_0 == p1_0) rfl rfl rfl rfl hb5
    try dsimp only [putL, setL, evL, getL]
    refine HL_skip ?_ ?_
    · exact wantF (j := 5) (b := true) (t := 10) (c := p0_0 == p1_0) rfl rfl rfl rfl hb5
    try dsimp only [putL, setL, evL, getL]
    refine HL_cons rfl ?_
    refine o_pickF rfl hb5 ?_
    try dsimp only [putL, setL, evL, getL]
    refine HL_cons rfl ?_
    refine o_move ?_
    try dsimp only [putL, setL, evL, getL]
    refine HL_skip ?_ ?_
    · exact wantF (j := 12) (b := true) (t := 17) (c := false) rfl rfl rfl rfl rfl
    try dsimp only [putL, setL, evL, getL]
    refine HL_skip ?_ ?_
    · exact wantF (j := 12) (b := true) (t := 17) (c := false) rfl rfl rfl rfl rfl
    try dsimp only [putL, setL, evL, getL]
    refine HL_skip ?_ ?_
    · exact wantF (j := 12) (b := true) (t := 17) (c := false) rfl rfl rfl rfl rfl
    try dsimp only [putL, setL, evL, getL]
    refine HL_skip ?_ ?_
    · exact wantF (j := 12) (b := true) (t := 17) (c := false) rfl rfl rfl rfl rfl
    try dsimp only [putL, setL, evL, getL]
    refine HL_skip ?_ ?_
    · exact wantF (j := 12) (b := true) (t := 17) (c := false) rfl rfl rfl rfl rfl
    try dsimp only [putL, setL, evL, getL]
    refine HL_cons rfl ?_
    refine o_pickF rfl rfl ?_
    try dsimp only [putL, setL, evL, getL]
    refine HL_cons rfl ?_
    refine o_move ?_
    try dsimp only [putL, setL, evL, getL]
    refine HL_skip ?_ ?_
    · exact wantF (j := 19) (b := true) (t := 24) (c := false) rfl rfl rfl rfl rfl
    try dsimp only [putL, setL, evL, getL]
    refine HL_skip ?_ ?_
    · exact wantF (j := 19) (b := true) (t := 24) (c := false) rfl rfl rfl rfl rfl
    try dsimp only [putL, setL, evL, getL]
    refine HL_skip ?_ ?_
    · exact wantF (j := 19) (b := true) (t := 24) (c := false) rfl rfl rfl rfl rfl
    try dsimp only [putL, setL, evL, getL]
    refine HL_skip ?_ ?_
    · exact wantF (j := 19) (b := true) (t := 24) (c := false) rfl rfl rfl rfl rfl
    try dsimp only [putL, setL, evL, getL]
    refine HL_skip ?_ ?_
    · exact wantF (j := 19) (b := true) (t := 24) (c := false) rfl rfl rfl rfl rfl
    try dsimp only [putL, setL, evL, getL]
    refine HL_cons rfl ?_
    refine o_pickF rfl rfl ?_
    try dsimp only [putL, setL, evL, getL]
    refine HL_cons rfl ?_
    refine o_assign ?_
    try dsimp only [putL, setL, evL, getL]
    refine HL_nil ?_
    refine hK4 _ _ ?_
    refine HT_ret ?_
    exact hQr _ _ [.bool false] ⟨rfl, trivial⟩ (retH (fun r => laws_sameBuf.post sb s F0 r _ _) (show some _ = some r from H) ⟨rfl, hH.sel [] (by decide)⟩)
def laws_sum.l1 (p0 : List (Int)) : Nat → Int → Int → Option Int
  | 0, _, _ => none
  | kf + 1, x36, x37 => if (decide (x37 < (p0.length : Int))) = true then ((rd? p0 x37).bind fun u52 => laws_sum.l1 p0 kf (IntKind.i64.wrap (x36 + u52)) (IntKind.i64.wrap (x37 + 1))) else (some x36)
def laws_sum.f (p0 : List (Int)) : Option Int := (laws_sum.l1 p0 ((((p0.length : Int)) - (0)).toNat + 2) 0 0).bind fun (o : Int) => match o with | x29 => (some x29)
def laws_sum.post (sb s : St) (F0 : Fp) (r : Int) : Value → St → Prop := fun v s' => v = .int .i64 r ∧ Hp sb s F0 s' []
set_option maxRecDepth 100000 in
set_option maxHeartbeats 4000000 in
theorem laws_sum.ok (sb s : St) (F0 : Fp) (A0p : Option Addr) (c0p : Nat) (p0 : List (Int)) (HRp0 : Rd KI sb A0p c0p p0) (hH : Hp sb s F0 s []) (r : Int) (H : laws_sum.f p0 = some r) : GCall Try.prog 31 #[.slice A0p p0.length c0p] s (laws_sum.post sb s F0 r) := by
  refine GCall_ofk [.tmp 2] [.slice A0p p0.length c0p, undef, undef, undef, undef, undef, undef, undef, undef, undef, undef, undef, undef, undef, undef, undef, undef] Try.func31 rfl rfl rfl ?_
  intro w Q hQr hQn hQp
  replace H := topE H
  unfold laws_sum.f at H
  refine HT_seq_k ?_
  intro K1 hK1
  refine HT_region ?_
  refine HL_cons rfl ?_
  refine o_assign ?_
  try dsimp only [putL, setL, evL, getL]
  refine HL_nil ?_
  refine hK1 _ _ ?_
  refine HT_seq_k ?_
  intro K2 hK2
  refine HT_region ?_
  refine HL_cons rfl ?_
  refine o_assign ?_
  try dsimp only [putL, setL, evL, getL]
  refine HL_nil ?_
  refine hK2 _ _ ?_
  refine HT_seq_k ?_
  intro K3 hK3
  refine HT_seq_k ?_
  intro K4 hK4
  refine HT_region ?_
  refine HL_cons rfl ?_
  refine o_move ?_
  try dsimp only [putL, setL, evL, getL]
  refine HL_cons rfl ?_
  refine o_len rfl Try.underlying24 ?_
  try dsimp only [putL, setL, evL, getL]
  refine HL_cons rfl ?_
  refine o_move ?_
  try dsimp only [putL, setL, evL, getL]
  refine HL_nil ?_
  refine hK4 _ _ ?_
  refine joinH H fun G5 hG5 H => ?_
  refine HT_toK (fun l' s' => ∃ (x29 : Int), G5 x29 = some r ∧ l' = [.slice A0p p0.length c0p, undef, .int .i64 0, .int .i64 x29, undef, getL l' 5, .slice A0p p0.length c0p, .int .i64 (p0.length : Int), getL l' 8, getL l' 9, getL l' 10, getL l' 11, getL l' 12, getL l' 13, getL l' 14, getL l' 15, undef] ∧ Hp sb s F0 s' []) ?_ ?_
  · intro K5 hK5
    refine HT_block ?_
    refine HT_loopK (fun kf l' s' => ∃ (x36 : Int) (x37 : Int), (laws_sum.l1 p0 kf x36 x37).bind G5 = some r ∧ l' = [.slice A0p p0.length c0p, undef, .int .i64 0, .int .i64 x36, undef, getL l' 5, .slice A0p p0.length c0p, .int .i64 (p0.length : Int), .int .i64 x37, getL l' 9, getL l' 10, getL l' 11, getL l' 12, getL l' 13, getL l' 14, getL l' 15, undef] ∧ Hp sb s F0 s' []) ((((p0.length : Int)) - (0)).toNat + 2) ⟨0, 0, H, rfl, hH⟩ ?_
    rintro kf l' s46 ⟨x36, x37, H, hl, hH⟩ K46 hK46
    generalize getL l' 5 = j5, getL l' 9 = j9, getL l' 10 = j10, getL l' 11 = j11, getL l' 12 = j12, getL l' 13 = j13, getL l' 14 = j14, getL l' 15 = j15 at hl
    subst hl
    cases kf with
    | zero => simp [laws_sum.l1] at H
    | succ kf =>
      rw [laws_sum.l1] at H
      refine HT_seq_k ?_
      intro K47 hK47
      refine HT_region ?_
      refine HL_cons rfl ?_
      refine o_bin rfl rfl rfl ?_
      try dsimp only [putL, setL, evL, getL]
      refine HL_nil ?_
      refine hK47 _ _ ?_
      refine HT_seq_k ?_
      intro K48 hK48
      rcases Bool.eq_false_or_eq_true (decide (x37 < (p0.length : Int))) with hb49 | hb49
      · replace H := iteT hb49 H
        refine HT_true (congrArg Value.bool hb49) ?_
        refine HT_skip ?_
        refine hK48 _ _ ?_
        refine HT_seq_k ?_
        intro K50 hK50
        refine HT_block ?_
        refine HT_seq_k ?_
        intro K51 hK51
        refine HT_region ?_
        replace H := headE H
        obtain ⟨u52, hu52, H⟩ := H
        obtain ⟨b52, o52, cs52, hr52, hh52, hel52⟩ := Rd.elb HRp0 hu52
        obtain rfl := hr52
        refine HL_cons rfl ?_
        refine hel52 s46 rfl rfl Try.underlying24 tI3 ?_
        try dsimp only [putL, setL, evL, getL]
        refine HL_cons rfl ?_
        refine o_load' rfl Try.underlying3 rfl ((hh52 hH.bs.mono) 0 _ rfl) ?_
        try dsimp only [putL, setL, evL, getL]
        refine HL_cons rfl ?_
        refine o_assign ?_
        try dsimp only [putL, setL, evL, getL]
        refine HL_nil ?_
        refine hK51 _ _ ?_
        refine HT_region ?_
        refine HL_cons rfl ?_
        refine o_move ?_
        try dsimp only [putL, setL, evL, getL]
        refine HL_cons rfl ?_
        refine o_move ?_
        try dsimp only [putL, setL, evL, getL]
        refine HL_cons rfl ?_
        refine o_bin rfl rfl rfl ?_
        try dsimp only [putL, setL, evL, getL]
        refine HL_cons rfl ?_
        refine o_assign ?_
        try dsimp only [putL, setL, evL, getL]
        refine HL_nil ?_
        refine hK50 _ _ ?_
        refine HT_region ?_
        refine HL_cons rfl ?_
        refine o_bin rfl rfl rfl ?_
        try dsimp only [putL, setL, evL, getL]
        refine HL_cons rfl ?_
        refine o_move ?_
        try dsimp only [putL, setL, evL, getL]
        refine HL_nil ?_
        exact hK46 _ _ ⟨kf, Nat.lt_succ_self kf, IntKind.i64.wrap (x36 + u52), IntKind.i64.wrap (x37 + 1), H, rfl, hH⟩
      · replace H := iteF hb49 H
        refine HT_false (congrArg Value.bool hb49) ?_
        refine HT_exit ?_
        exact hK5 _ _ ⟨x36, H, rfl, hH⟩
  · rintro l' s53 ⟨x29, H, hl, hH⟩
    generalize getL l' 5 = j5, getL l' 8 = j8, getL l' 9 = j9, getL l' 10 = j10, getL l' 11 = j11, getL l' 12 = j12, getL l' 13 = j13, getL l' 14 = j14, getL l' 15 = j15 at hl
    subst hl
    replace H := hG5 _ H
    try dsimp only at H
    refine hK3 _ _ ?_
    refine HT_seq_k ?_
    intro K54 hK54
    refine HT_region ?_
    refine HL_cons rfl ?_
    refine o_move ?_
    try dsimp only [putL, setL, evL, getL]
    refine HL_cons rfl ?_
    refine o_assign ?_
    try dsimp only [putL, setL, evL, getL]
    refine HL_nil ?_
    refine hK54 _ _ ?_
    refine HT_ret ?_
    exact hQr _ _ [.int .i64 x29] ⟨rfl, trivial⟩ (retH (fun r => laws_sum.post sb s F0 r _ _) (show some _ = some r from H) ⟨rfl, hH⟩)
def laws_numberOf.l1 (p0 : List (Int)) : Nat → Int → Int → Option Int
  | 0, _, _ => none
  | kf + 1, x40, x41 => if (decide (x41 < (p0.length : Int))) = true then ((rd? p0 x41).bind fun u57 => (rem? (IntKind.i64.wrap ((IntKind.i64.wrap (31 * x40)) + (IntKind.i64.wrap u57))) 1000003).bind fun u58 => laws_numberOf.l1 p0 kf u58 (IntKind.i64.wrap (x41 + 1))) else (some x40)
def laws_numberOf.f (p0 : List (Int)) : Option Int := (laws_numberOf.l1 p0 ((((p0.length : Int)) - (0)).toNat + 2) 0 0).bind fun (o : Int) => match o with | x32 => (some x32)
def laws_numberOf.post (sb s : St) (F0 : Fp) (r : Int) : Value → St → Prop := fun v s' => v = .int .i64 r ∧ Hp sb s F0 s' []
set_option maxRecDepth 100000 in
set_option maxHeartbeats 4000000 in
theorem laws_numberOf.ok (sb s : St) (F0 : Fp) (A0p : Option Addr) (c0p : Nat) (p0 : List (Int)) (HRp0 : Rd (Kd.int .u8) sb A0p c0p p0) (hH : Hp sb s F0 s []) (r : Int) (H : laws_numberOf.f p0 = some r) : GCall Try.prog 30 #[.slice A0p p0.length c0p] s (laws_numberOf.post sb s F0 r) := by
  refine GCall_ofk [.tmp 2] [.slice A0p p0.length c0p, undef, undef, undef, undef, undef, undef, undef, undef, undef, undef, undef, undef, undef, undef, undef, undef, undef, undef, undef] Try.func30 rfl rfl rfl ?_
  intro w Q hQr hQn hQp
  replace H := topE H
  unfold laws_numberOf.f at H
  refine HT_seq_k ?_
  intro K1 hK1
  refine HT_region ?_
  refine HL_cons rfl ?_
  refine o_assign ?_
  try dsimp only [putL, setL, evL, getL]
  refine HL_nil ?_
  refine hK1 _ _ ?_
  refine HT_seq_k ?_
  intro K2 hK2
  refine HT_region ?_
  refine HL_cons rfl ?_
  refine o_assign ?_
  try dsimp only [putL, setL, evL, getL]
  refine HL_nil ?_
  refine hK2 _ _ ?_
  refine HT_seq_k ?_
  intro K3 hK3
  refine HT_seq_k ?_
  intro K4 hK4
  refine HT_region ?_
  refine HL_cons rfl ?_
  refine o_move ?_
  try dsimp only [putL, setL, evL, getL]
  refine HL_cons rfl ?_
  refine o_len rfl Try.underlying22 ?_
  try dsimp only [putL, setL, evL, getL]
  refine HL_cons rfl ?_
  refine o_move ?_
  try dsimp only [putL, setL, evL, getL]
  refine HL_nil ?_
  refine hK4 _ _ ?_
  refine joinH H fun G5 hG5 H => ?_
  refine HT_toK (fun l' s' => ∃ (x32 : Int), G5 x32 = some r ∧ l' = [.slice A0p p0.length c0p, undef, .int .i64 0, .int .i64 x32, undef, getL l' 5, .slice A0p p0.length c0p, .int .i64 (p0.length : Int), getL l' 8, getL l' 9, getL l' 10, getL l' 11, getL l' 12, getL l' 13, getL l' 14, getL l' 15, getL l' 16, getL l' 17, getL l' 18, undef] ∧ Hp sb s F0 s' []) ?_ ?_
  · intro K5 hK5
    refine HT_block ?_
    refine HT_loopK (fun kf l' s' => ∃ (x40 : Int) (x41 : Int), (laws_numberOf.l1 p0 kf x40 x41).bind G5 = some r ∧ l' = [.slice A0p p0.length c0p, undef, .int .i64 0, .int .i64 x40, undef, getL l' 5, .slice A0p p0.length c0p, .int .i64 (p0.length : Int), .int .i64 x41, getL l' 9, getL l' 10, getL l' 11, getL l' 12, getL l' 13, getL l' 14, getL l' 15, getL l' 16, getL l' 17, getL l' 18, undef] ∧ Hp sb s F0 s' []) ((((p0.length : Int)) - (0)).toNat + 2) ⟨0, 0, H, rfl, hH⟩ ?_
    rintro kf l' s51 ⟨x40, x41, H, hl, hH⟩ K51 hK51
    generalize getL l' 5 = j5, getL l' 9 = j9, getL l' 10 = j10, getL l' 11 = j11, getL l' 12 = j12, getL l' 13 = j13, getL l' 14 = j14, getL l' 15 = j15, getL l' 16 = j16, getL l' 17 = j17, getL l' 18 = j18 at hl
    subst hl
    cases kf with
    | zero => simp [laws_numberOf.l1] at H
    | succ kf =>
      rw [laws_numberOf.l1] at H
      refine HT_seq_k ?_
      intro K52 hK52
      refine HT_region ?_
      refine HL_cons rfl ?_
      refine o_bin rfl rfl rfl ?_
      try dsimp only [putL, setL, evL, getL]
      refine HL_nil ?_
      refine hK52 _ _ ?_
      refine HT_seq_k ?_
      intro K53 hK53
      rcases Bool.eq_false_or_eq_true (decide (x41 < (p0.length : Int))) with hb54 | hb54
      · replace H := iteT hb54 H
        refine HT_true (congrArg Value.bool hb54) ?_
        refine HT_skip ?_
        refine hK53 _ _ ?_
        refine HT_seq_k ?_
        intro K55 hK55
        refine HT_block ?_
        refine HT_seq_k ?_
        intro K56 hK56
        refine HT_region ?_
        replace H := headE H
        obtain ⟨u57, hu57, H⟩ := H
        obtain ⟨b57, o57, cs57, hr57, hh57, hel57⟩ := Rd.elb HRp0 hu57
        obtain rfl := hr57
        refine HL_cons rfl ?_
        refine hel57 s51 rfl rfl Try.underlying22 tI5 ?_
        try dsimp only [putL, setL, evL, getL]
        refine HL_cons rfl ?_
        refine o_load' rfl Try.underlying5 rfl ((hh57 hH.bs.mono) 0 _ rfl) ?_
        try dsimp only [putL, setL, evL, getL]
        refine HL_cons rfl ?_
        refine o_assign ?_
        try dsimp only [putL, setL, evL, getL]
        refine HL_nil ?_
        refine hK56 _ _ ?_
        refine HT_region ?_
        refine HL_cons rfl ?_
        refine o_move ?_
        try dsimp only [putL, setL, evL, getL]
        refine HL_cons rfl ?_
        refine o_bin rfl rfl rfl ?_
        try dsimp only [putL, setL, evL, getL]
        refine HL_cons rfl ?_
        refine o_move ?_
        try dsimp only [putL, setL, evL, getL]
        refine HL_cons rfl ?_
        refine o_conv rfl Try.underlying5 Try.underlying3 ?_
        try dsimp only [putL, setL, evL, getL]
        refine HL_cons rfl ?_
        refine o_bin rfl rfl rfl ?_
        try dsimp only [putL, setL, evL, getL]
        replace H := headE H
        obtain ⟨u58, hu58, H⟩ := H
        refine HL_cons rfl ?_
        refine o_rem' rfl rfl hu58 ?_
        try dsimp only [putL, setL, evL, getL]
        refine HL_cons rfl ?_
        refine o_assign ?_
        try dsimp only [putL, setL, evL, getL]
        refine HL_nil ?_
        refine hK55 _ _ ?_
        refine HT_region ?_
        refine HL_cons rfl ?_
        refine o_bin rfl rfl rfl ?_
        try dsimp only [putL, setL, evL, getL]
        refine HL_cons rfl ?_
        refine o_move ?_
        try dsimp only [putL, setL, evL, getL]
        refine HL_nil ?_
        exact hK51 _ _ ⟨kf, Nat.lt_succ_self kf, u58, IntKind.i64.wrap (x41 + 1), H, rfl, hH⟩
      · replace H := iteF hb54 H
        refine HT_false (congrArg Value.bool hb54) ?_
        refine HT_exit ?_
        exact hK5 _ _ ⟨x40, H, rfl, hH⟩
  · rintro l' s59 ⟨x32, H, hl, hH⟩
    generalize getL l' 5 = j5, getL l' 8 = j8, getL l' 9 = j9, getL l' 10 = j10, getL l' 11 = j11, getL l' 12 = j12, getL l' 13 = j13, getL l' 14 = j14, getL l' 15 = j15, getL l' 16 = j16, getL l' 17 = j17, getL l' 18 = j18 at hl
    subst hl
    replace H := hG5 _ H
    try dsimp only at H
    refine hK3 _ _ ?_
    refine HT_seq_k ?_
    intro K60 hK60
    refine HT_region ?_
    refine HL_cons rfl ?_
    refine o_move ?_
    try dsimp only [putL, setL, evL, getL]
    refine HL_cons rfl ?_
    refine o_assign ?_
    try dsimp only [putL, setL, evL, getL]
    refine HL_nil ?_
    refine hK60 _ _ ?_
    refine HT_ret ?_
    exact hQr _ _ [.int .i64 x32] ⟨rfl, trivial⟩ (retH (fun r => laws_numberOf.post sb s F0 r _ _) (show some _ = some r from H) ⟨rfl, hH⟩)
def spec_DrawTakeBuf.f (p0 : List (Int)) : Option (Int × (List (Int)) × (List (Int)) × Int × Int) := (spec_l1Cur_buf.f p0 0 0).bind fun u6 => (spec_l1Cur_pick.f p0 u6.2.2.2.2.1 u6.2.2.2.2.2 (IntKind.i64.wrap ((u6.2.1.length : Int) + 2))).bind fun u12 => (spec_l1Cur_pick.f p0 u12.2.1 u12.2.2 9).bind fun u13 => (quo? .i64 u13.1 8).bind fun u14 => some (u6.1, u6.2.1, u6.2.2.1, u6.2.2.2.1, (IntKind.i64.wrap (u12.1 - u14)))
def spec_DrawTakeBuf.post (sb s : St) (F0 : Fp) (r : Int × (List (Int)) × (List (Int)) × Int × Int) : Value → St → Prop := fun v s' => ∃ (A1 : Option Addr) (c1 : Nat) (A2 : Option Addr) (c2 : Nat), v = .tuple #[.agg #[.int .i64 r.1, .slice A1 r.2.1.length c1, .slice A2 r.2.2.1.length c2, .int .i64 r.2.2.2.1], .int .i64 r.2.2.2.2] ∧ Hp sb s F0 s' [Ck.ol OI 3 A1 c1 r.2.1, Ck.ol OI 3 A2 c2 r.2.2.1]
set_option maxRecDepth 100000 in
set_option maxHeartbeats 4000000 in
theorem spec_DrawTakeBuf.ok (sb s : St) (F0 : Fp) (A0p : Option Addr) (c0p : Nat) (p0 : List (Int)) (HRp0 : Rd (Kd.int .u8) sb A0p c0p p0) (hH : Hp sb s F0 s []) (r : Int × (List (Int)) × (List (Int)) × Int × Int) (H : spec_DrawTakeBuf.f p0 = some r) : GCall Try.prog 32 #[.slice A0p p0.length c0p] s (spec_DrawTakeBuf.post sb s F0 r) := by
  refine GCall_ofk [.cell 2 37, .tmp 3] [.slice A0p p0.length c0p, undef, undef, undef, undef, undef, undef, undef, undef, undef, undef, undef, undef, undef, undef, undef, undef, undef, undef, undef, undef, undef] Try.func32 rfl rfl rfl ?_
  intro w Q hQr hQn hQp
  replace H := topE H
  unfold spec_DrawTakeBuf.f at H
  refine HT_seq_k ?_
  intro K1 hK1
  refine HT_region ?_
  refine HL_cons rfl ?_
  refine o_allocH hH tI37 ?_
  intro b2 s2 hH' hG
  replace hH : Hp sb s F0 s2 [Ck.ov b2 [.int .i64 0, .slice none 0 0, .slice none 0 0, .int .i64 0] 37] := hH'
  clear hH' hG
  try dsimp only [putL, setL, evL, getL]
  refine HL_cons rfl ?_
  refine o_assign ?_
  try dsimp only [putL, setL, evL, getL]
  refine HL_nil ?_
  refine hK1 _ _ ?_
  refine HT_seq_k ?_
  intro K3 hK3
  refine HT_region ?_
  refine HL_cons rfl ?_
  refine o_move ?_
  try dsimp only [putL, setL, evL, getL]
  refine HL_cons rfl ?_
  refine o_build (pl := [(0, 1), (1, 1), (2, 1)]) (cs := #[.slice A0p p0.length c0p, .int .i64 0, .int .u64 0]) Try.underlying113 tI113 (by kernel_rfl) (by kernel_rfl) rfl ?_
  try dsimp only [putL, setL, evL, getL]
  refine HL_cons rfl ?_
  refine o_boxH hH rfl ?_
  intro b4 s4 hH' hG
  replace hH : Hp sb s F0 s4 [Ck.ov b2 [.int .i64 0, .slice none 0 0, .slice none 0 0, .int .i64 0] 37, Ck.ov b4 [.slice A0p p0.length c0p, .int .i64 0, .int .u64 0] 113] := hH'
  clear hH' hG
  try dsimp only [putL, setL, evL, getL]
  refine HL_cons rfl ?_
  refine o_assign ?_
  try dsimp only [putL, setL, evL, getL]
  refine HL_nil ?_
  refine hK3 _ _ ?_
  refine HT_seq_k ?_
  intro K5 hK5
  refine HT_region ?_
  refine HL_cons rfl ?_
  refine o_move ?_
  try dsimp only [putL, setL, evL, getL]
  replace H := headE H
  obtain ⟨u6, hu6, H⟩ := H
  obtain ⟨F1, hA, hB⟩ := hH.take [1] (by decide)
  dsimp only [addC, setC, rmC, selC, getC] at hA
  refine HL_cons rfl ?_
  refine o_call (args := #[.pointer (some ⟨b4, 0, none⟩)]) Try.func111 rfl rfl rfl (spec_l1Cur_buf.ok sb s4 F1 b4 A0p c0p p0 0 0 HRp0 hA _ hu6) ?_
  rintro _ s6 ⟨A7, c7, A8, c8, rfl, hD⟩
  replace hH := hB _ _ _ (Up.refl _ _ _) hD
  clear hD hA hB
  dsimp only [addC, setC, rmC, selC, getC] at hH
  try dsimp only [putL, setL, evL, getL]
  refine HL_cons rfl ?_
  refine o_allocH hH tI37 ?_
  intro b9 s9 hH' hG
  replace hH : Hp sb s F0 s9 [Ck.ov b2 [.int .i64 0, .slice none 0 0, .slice none 0 0, .int .i64 0] 37, Ck.emp, Ck.ol OI 3 A7 c7 u6.2.1, Ck.ol OI 3 A8 c8 u6.2.2.1, Ck.ov b4 [.slice A0p p0.length c0p, .int .i64 u6.2.2.2.2.1, .int .u64 u6.2.2.2.2.2] 113, Ck.ov b9 [.int .i64 0, .slice none 0 0, .slice none 0 0, .int .i64 0] 37] := hH'
  clear hH' hG
  try dsimp only [putL, setL, evL, getL]
  refine HL_cons rfl ?_
  refine o_stvH (vs := [.int .i64 u6.1, .slice A7 u6.2.1.length c7, .slice A8 u6.2.2.1.length c8, .int .i64 u6.2.2.2.1]) (us' := [.int .i64 u6.1, .slice A7 u6.2.1.length c7, .slice A8 u6.2.2.1.length c8, .int .i64 u6.2.2.2.1]) hH 5 rfl rfl rfl rfl rfl tI37 rfl (List.cons_ne_nil _ _) rfl rfl rfl ?_
  intro s10 hH'
  replace hH : Hp sb s F0 s10 [Ck.ov b2 [.int .i64 0, .slice none 0 0, .slice none 0 0, .int .i64 0] 37, Ck.emp, Ck.ol OI 3 A7 c7 u6.2.1, Ck.ol OI 3 A8 c8 u6.2.2.1, Ck.ov b4 [.slice A0p p0.length c0p, .int .i64 u6.2.2.2.2.1, .int .u64 u6.2.2.2.2.2] 113, Ck.ov b9 [.int .i64 u6.1, .slice A7 u6.2.1.length c7, .slice A8 u6.2.2.1.length c8, .int .i64 u6.2.2.2.1] 37] := hH'
  clear hH'
  try dsimp only [putL, setL, evL, getL]
  refine HL_nil ?_
  refine hK5 _ _ ?_
  refine HT_seq_k ?_
  intro K11 hK11
  refine HX_draw hMix ?_
  refine HX_lim (R := fun _ => True) (k := 0) (fun s' => Gro s10 s') 6 ?_
  have hR := Gro.refl s10
  have hH0 := hH
  refine HK_readP 1 (v := .pointer (some ⟨b4, 0, none⟩)) rfl (by kernel_rfl) (fun c l s h => hQp c l s h) rfl (fun s' K hK => ?_) rfl rfl (fun _ => hR) ?_
  · refine o_move ?_
    exact hK
  try dsimp only [putL, setL, evL, getL]
  refine HK_readP 2 (v := .pointer (some ⟨b9, 0 + 1, none⟩)) rfl (by kernel_rfl) (fun c l s h => hQp c l s h) rfl (fun s' K hK => ?_) rfl rfl (fun _ => hR) ?_
  · refine o_faddr' (ft := 24) (off := 1) rfl Try.underlying37 rfl tI24 (by decide) ?_
    exact hK
  try dsimp only [putL, setL, evL, getL]
  refine HK_read 3 (v := .slice A7 u6.2.1.length c7) rfl (by kernel_rfl) (fun c l s h => hQp c l s h) rfl (fun s' hR' K hK => ?_) rfl rfl hR ?_
  · refine o_load' rfl Try.underlying24 rfl (has_gro hR' (hH0.hasv 5 rfl rfl)) ?_
    exact hK
  try dsimp only [putL, setL, evL, getL]
  refine HK_readP 4 (v := .int .i64 (u6.2.1.length : Int)) rfl (by kernel_rfl) (fun c l s h => hQp c l s h) rfl (fun s' K hK => ?_) rfl rfl (fun _ => hR) ?_
  · refine o_len rfl Try.underlying24 ?_
    exact hK
  try dsimp only [putL, setL, evL, getL]
  refine HK_readP 5 (v := .int .i64 (IntKind.i64.wrap ((u6.2.1.length : Int) + 2))) rfl (by kernel_rfl) (fun c l s h => hQp c l s h) rfl (fun s' K hK => ?_) rfl rfl (fun _ => hR) ?_
  · refine o_bin rfl rfl rfl ?_
    exact hK
  try dsimp only [putL, setL, evL, getL]
  refine HK_readP 7 (v := .pointer (some ⟨b4, 0, none⟩)) rfl (by kernel_rfl) (fun c l s h => hQp c l s h) rfl (fun s' K hK => ?_) rfl rfl (fun _ => hR) ?_
  · refine o_move ?_
    exact hK
  try dsimp only [putL, setL, evL, getL]
  refine HK_more [0, 6] (by kernel_rfl) rfl (fun _ => hR) ⟨⟨_, rfl, Or.inl ⟨rfl, ?_⟩⟩, ⟨_, rfl, Or.inl ⟨rfl, ?_⟩⟩, trivial⟩
  · skip
    refine o_loads' [.int .i64 u6.1, .slice A7 u6.2.1.length c7, .slice A8 u6.2.2.1.length c8, .int .i64 u6.2.2.2.1] rfl Try.underlying37 rfl tI37 rfl (hH.partv 5 rfl (0) [.int .i64 u6.1, .slice A7 u6.2.1.length c7, .slice A8 u6.2.2.1.length c8, .int .i64 u6.2.2.2.1] rfl) ?_
    try dsimp only [putL, setL, evL, getL]
    refine HK_more [6] (by kernel_rfl) rfl (fun _ => hR) ⟨⟨_, rfl, Or.inl ⟨rfl, ?_⟩⟩, trivial⟩
    replace H := headE H
    obtain ⟨u12, hu12, H⟩ := H
    obtain ⟨F1, hA, hB⟩ := hH.take [4] (by decide)
    dsimp only [addC, setC, rmC, selC, getC] at hA
    skip
    refine o_call (args := #[.pointer (some ⟨b4, 0, none⟩), .int .i64 (IntKind.i64.wrap ((u6.2.1.length : Int) + 2))]) Try.func112 rfl rfl rfl (spec_l1Cur_pick.ok sb s10 F1 b4 A0p c0p p0 u6.2.2.2.2.1 u6.2.2.2.2.2 (IntKind.i64.wrap ((u6.2.1.length : Int) + 2)) HRp0 hA _ hu12) ?_
    rintro _ s12 ⟨rfl, hD⟩
    replace hH := hB _ _ _ (Up.refl _ _ _) hD
    clear hD hA hB
    dsimp only [addC, setC, rmC, selC, getC] at hH
    try dsimp only [putL, setL, evL, getL]
    refine HK_free (by kernel_rfl) ?_
    refine HX_lim (R := fun _ => True) (k := 0) (fun s' => Gro s12 s') 8 ?_
    have hR := Gro.refl s12
    have hH0 := hH
    refine HK_more [8] (by kernel_rfl) rfl (fun _ => hR) ⟨⟨_, rfl, Or.inl ⟨rfl, ?_⟩⟩, trivial⟩
    replace H := headE H
    obtain ⟨u13, hu13, H⟩ := H
    obtain ⟨F1, hA, hB⟩ := hH.take [6] (by decide)
    dsimp only [addC, setC, rmC, selC, getC] at hA
    skip
    refine o_call (args := #[.pointer (some ⟨b4, 0, none⟩), .int .i64 9]) Try.func112 rfl rfl rfl (spec_l1Cur_pick.ok sb s12 F1 b4 A0p c0p p0 u12.2.1 u12.2.2 9 HRp0 hA _ hu13) ?_
    rintro _ s13 ⟨rfl, hD⟩
    replace hH := hB _ _ _ (Up.refl _ _ _) hD
    clear hD hA hB
    dsimp only [addC, setC, rmC, selC, getC] at hH
    try dsimp only [putL, setL, evL, getL]
    refine HK_free (by kernel_rfl) ?_
    refine HX_lim (R := fun _ => True) (k := 0) (fun s' => Gro s13 s') 11 ?_
    have hR := Gro.refl s13
    have hH0 := hH
    replace H := headE H
    obtain ⟨u14, hu14, H⟩ := H
    refine HK_readP 9 (v := .int .i64 u14) rfl (by kernel_rfl) (fun c l s h => hQp c l s h) rfl (fun s' K hK => ?_) rfl rfl (fun _ => hR) ?_
    · refine o_quo' rfl rfl hu14 ?_
      exact hK
    try dsimp only [putL, setL, evL, getL]
    refine HK_readP 10 (v := .int .i64 (IntKind.i64.wrap (u12.1 - u14))) rfl (by kernel_rfl) (fun c l s h => hQp c l s h) rfl (fun s' K hK => ?_) rfl rfl (fun _ => hR) ?_
    · refine o_bin rfl rfl rfl ?_
      exact hK
    try dsimp only [putL, setL, evL, getL]
    refine HK_more [11] (by kernel_rfl) rfl (fun _ => hR) ⟨⟨_, rfl, Or.inl ⟨rfl, ?_⟩⟩, trivial⟩
    skip
    refine o_stvH (vs := [.int .i64 u6.1, .slice A7 u6.2.1.length c7, .slice A8 u6.2.2.1.length c8, .int .i64 u6.2.2.2.1]) (us' := [.int .i64 u6.1, .slice A7 u6.2.1.length c7, .slice A8 u6.2.2.1.length c8, .int .i64 u6.2.2.2.1]) hH 0 rfl rfl rfl rfl rfl tI37 rfl (List.cons_ne_nil _ _) rfl rfl rfl ?_
    intro s15 hH'
    replace hH : Hp sb s F0 s15 [Ck.ov b2 [.int .i64 u6.1, .slice A7 u6.2.1.length c7, .slice A8 u6.2.2.1.length c8, .int .i64 u6.2.2.2.1] 37, Ck.emp, Ck.ol OI 3 A7 c7 u6.2.1, Ck.ol OI 3 A8 c8 u6.2.2.1, Ck.emp, Ck.ov b9 [.int .i64 u6.1, .slice A7 u6.2.1.length c7, .slice A8 u6.2.2.1.length c8, .int .i64 u6.2.2.2.1] 37, Ck.emp, Ck.ov b4 [.slice A0p p0.length c0p, .int .i64 u13.2.1, .int .u64 u13.2.2] 113] := hH'
    clear hH'
    try dsimp only [putL, setL, evL, getL]
    refine HK_free (by kernel_rfl) ?_
    refine HX_lim (R := fun _ => True) (k := 0) (fun s' => Gro s15 s') 14 ?_
    have hR := Gro.refl s15
    have hH0 := hH
    refine HK_more [12] (by kernel_rfl) rfl (fun _ => hR) ⟨⟨_, rfl, Or.inl ⟨rfl, ?_⟩⟩, trivial⟩
    skip
    refine o_assign ?_
    try dsimp only [putL, setL, evL, getL]
    refine HK_done (fun _ => hR) (by kernel_rfl) ?_
    refine hK11 _ _ ?_
    refine HT_ret ?_
    exact hQr _ _ [.agg #[.int .i64 u6.1, .slice A7 u6.2.1.length c7, .slice A8 u6.2.2.1.length c8, .int .i64 u6.2.2.2.1], .int .i64 (IntKind.i64.wrap (u12.1 - u14))] ⟨ResV.cells rfl Try.underlying37 rfl tI37 (hH.var 0 rfl) rfl, rfl, trivial⟩ (retH (fun r => spec_DrawTakeBuf.post sb s F0 r _ _) (show some _ = some r from H) ⟨A7, c7, A8, c8, rfl, hH.sel [2, 3] (by decide)⟩)
  · replace H := headE H
    obtain ⟨u16, hu16, H⟩ := H
    obtain ⟨F1, hA, hB⟩ := hH.take [4] (by decide)
    dsimp only [addC, setC, rmC, selC, getC] at hA
    skip
    refine o_call (args := #[.pointer (some ⟨b4, 0, none⟩), .int .i64 (IntKind.i64.wrap ((u6.2.1.length : Int) + 2))]) Try.func112 rfl rfl rfl (spec_l1Cur_pick.ok sb s10 F1 b4 A0p c0p p0 u6.2.2.2.2.1 u6.2.2.2.2.2 (IntKind.i64.wrap ((u6.2.1.length : Int) + 2)) HRp0 hA _ hu16) ?_
    rintro _ s16 ⟨rfl, hD⟩
    replace hH := hB _ _ _ (Up.refl _ _ _) hD
    clear hD hA hB
    dsimp only [addC, setC, rmC, selC, getC] at hH
    try dsimp only [putL, setL, evL, getL]
    refine HK_free (by kernel_rfl) ?_
    refine HX_lim (R := fun _ => True) (k := 0) (fun s' => Gro s16 s') 8 ?_
    have hR := Gro.refl s16
    have hH0 := hH
    refine HK_more [0, 8] (by kernel_rfl) rfl (fun _ => hR) ⟨⟨_, rfl, Or.inl ⟨rfl, ?_⟩⟩, ⟨_, rfl, Or.inl ⟨rfl, ?_⟩⟩, trivial⟩
    · skip
      refine o_loads' [.int .i64 u6.1, .slice A7 u6.2.1.length c7, .slice A8 u6.2.2.1.length c8, .int .i64 u6.2.2.2.1] rfl Try.underlying37 rfl tI37 rfl (hH.partv 5 rfl (0) [.int .i64 u6.1, .slice A7 u6.2.1.length c7, .slice A8 u6.2.2.1.length c8, .int .i64 u6.2.2.2.1] rfl) ?_
      try dsimp only [putL, setL, evL, getL]
      refine HK_more [8] (by kernel_rfl) rfl (fun _ => hR) ⟨⟨_, rfl, Or.inl ⟨rfl, ?_⟩⟩, trivial⟩
      replace H := headE H
      obtain ⟨u17, hu17, H⟩ := H
      obtain ⟨F1, hA, hB⟩ := hH.take [6] (by decide)
      dsimp only [addC, setC, rmC, selC, getC] at hA
      skip
      refine o_call (args := #[.pointer (some ⟨b4, 0, none⟩), .int .i64 9]) Try.func112 rfl rfl rfl (spec_l1Cur_pick.ok sb s16 F1 b4 A0p c0p p0 u16.2.1 u16.2.2 9 HRp0 hA _ hu17) ?_
      rintro _ s17 ⟨rfl, hD⟩
      replace hH := hB _ _ _ (Up.refl _ _ _) hD
      clear hD hA hB
      dsimp only [addC, setC, rmC, selC, getC] at hH
      try dsimp only [putL, setL, evL, getL]
      refine HK_free (by kernel_rfl) ?_
      refine HX_lim (R := fun _ => True) (k := 0) (fun s' => Gro s17 s') 11 ?_
      have hR := Gro.refl s17
      have hH0 := hH
      replace H := headE H
      obtain ⟨u18, hu18, H⟩ := H
      refine HK_readP 9 (v := .int .i64 u18) rfl (by kernel_rfl) (fun c l s h => hQp c l s h) rfl (fun s' K hK => ?_) rfl rfl (fun _ => hR) ?_
      · refine o_quo' rfl rfl hu18 ?_
        exact hK
      try dsimp only [putL, setL, evL, getL]
      refine HK_readP 10 (v := .int .i64 (IntKind.i64.wrap (u16.1 - u18))) rfl (by kernel_rfl) (fun c l s h => hQp c l s h) rfl (fun s' K hK => ?_) rfl rfl (fun _ => hR) ?_
      · refine o_bin rfl rfl rfl ?_
        exact hK
      try dsimp only [putL, setL, evL, getL]
      refine HK_more [11] (by kernel_rfl) rfl (fun _ => hR) ⟨⟨_, rfl, Or.inl ⟨rfl, ?_⟩⟩, trivial⟩
      skip
      refine o_stvH (vs := [.int .i64 u6.1, .slice A7 u6.2.1.length c7, .slice A8 u6.2.2.1.length c8, .int .i64 u6.2.2.2.1]) (us' := [.int .i64 u6.1, .slice A7 u6.2.1.length c7, .slice A8 u6.2.2.1.length c8, .int .i64 u6.2.2.2.1]) hH 0 rfl rfl rfl rfl rfl tI37 rfl (List.cons_ne_nil _ _) rfl rfl rfl ?_
      intro s19 hH'
      replace hH : Hp sb s F0 s19 [Ck.ov b2 [.int .i64 u6.1, .slice A7 u6.2.1.length c7, .slice A8 u6.2.2.1.length c8, .int .i64 u6.2.2.2.1] 37, Ck.emp, Ck.ol OI 3 A7 c7 u6.2.1, Ck.ol OI 3 A8 c8 u6.2.2.1, Ck.emp, Ck.ov b9 [.int .i64 u6.1, .slice A7 u6.2.1.length c7, .slice A8 u6.2.2.1.length c8, .int .i64 u6.2.2.2.1] 37, Ck.emp, Ck.ov b4 [.slice A0p p0.length c0p, .int .i64 u17.2.1, .int .u64 u17.2.2] 113] := hH'
      clear hH'
      try dsimp only [putL, setL, evL, getL]
      refine HK_free (by kernel_rfl) ?_
      refine HX_lim (R := fun _ => True) (k := 0) (fun s' => Gro s19 s') 14 ?_
      have hR := Gro.refl s19
      have hH0 := hH
      refine HK_more [12] (by kernel_rfl) rfl (fun _ => hR) ⟨⟨_, rfl, Or.inl ⟨rfl, ?_⟩⟩, trivial⟩
      skip
      refine o_assign ?_
      try dsimp only [putL, setL, evL, getL]
      refine HK_done (fun _ => hR) (by kernel_rfl) ?_
      refine hK11 _ _ ?_
      refine HT_ret ?_
      exact hQr _ _ [.agg #[.int .i64 u6.1, .slice A7 u6.2.1.length c7, .slice A8 u6.2.2.1.length c8, .int .i64 u6.2.2.2.1], .int .i64 (IntKind.i64.wrap (u16.1 - u18))] ⟨ResV.cells rfl Try.underlying37 rfl tI37 (hH.var 0 rfl) rfl, rfl, trivial⟩ (retH (fun r => spec_DrawTakeBuf.post sb s F0 r _ _) (show some _ = some r from H) ⟨A7, c7, A8, c8, rfl, hH.sel [2, 3] (by decide)⟩)
    · replace H := headE H
      obtain ⟨u20, hu20, H⟩ := H
      obtain ⟨F1, hA, hB⟩ := hH.take [6] (by decide)
      dsimp only [addC, setC, rmC, selC, getC] at hA
      skip
      refine o_call (args := #[.pointer (some ⟨b4, 0, none⟩), .int .i64 9]) Try.func112 rfl rfl rfl (spec_l1Cur_pick.ok sb s16 F1 b4 A0p c0p p0 u16.2.1 u16.2.2 9 HRp0 hA _ hu20) ?_
      rintro _ s20 ⟨rfl, hD⟩
      replace hH := hB _ _ _ (Up.refl _ _ _) hD
      clear hD hA hB
      dsimp only [addC, setC, rmC, selC, getC] at hH
      try dsimp only [putL, setL, evL, getL]
      refine HK_free (by kernel_rfl) ?_
      refine HX_lim (R := fun _ => True) (k := 0) (fun s' => Gro s20 s') 11 ?_
      have hR := Gro.refl s20
      have hH0 := hH
      refine HK_read 0 (v := .agg #[.int .i64 u6.1, .slice A7 u6.2.1.length c7, .slice A8 u6.2.2.1.length c8, .int .i64 u6.2.2.2.1]) rfl (by kernel_rfl) (fun c l s h => hQp c l s h) rfl (fun s' hR' K hK => ?_) rfl rfl hR ?_
      · refine o_loads' [.int .i64 u6.1, .slice A7 u6.2.1.length c7, .slice A8 u6.2.2.1.length c8, .int .i64 u6.2.2.2.1] rfl Try.underlying37 rfl tI37 rfl (fun j v hj => has_gro hR' ((hH0.partv 5 rfl (0) [.int .i64 u6.1, .slice A7 u6.2.1.length c7, .slice A8 u6.2.2.1.length c8, .int .i64 u6.2.2.2.1] rfl) j v hj)) ?_
        exact hK
      try dsimp only [putL, setL, evL, getL]
      replace H := headE H
      obtain ⟨u21, hu21, H⟩ := H
      refine HK_readP 9 (v := .int .i64 u21) rfl (by kernel_rfl) (fun c l s h => hQp c l s h) rfl (fun s' K hK => ?_) rfl rfl (fun _ => hR) ?_
      · refine o_quo' rfl rfl hu21 ?_
        exact hK
      try dsimp only [putL, setL, evL, getL]
      refine HK_readP 10 (v := .int .i64 (IntKind.i64.wrap (u16.1 - u21))) rfl (by kernel_rfl) (fun c l s h => hQp c l s h) rfl (fun s' K hK => ?_) rfl rfl (fun _ => hR) ?_
      · refine o_bin rfl rfl rfl ?_
        exact hK
      try dsimp only [putL, setL, evL, getL]
      refine HK_more [11] (by kernel_rfl) rfl (fun _ => hR) ⟨⟨_, rfl, Or.inl ⟨rfl, ?_⟩⟩, trivial⟩
      skip
      refine o_stvH (vs := [.int .i64 u6.1, .slice A7 u6.2.1.length c7, .slice A8 u6.2.2.1.length c8, .int .i64 u6.2.2.2.1]) (us' := [.int .i64 u6.1, .slice A7 u6.2.1.length c7, .slice A8 u6.2.2.1.length c8, .int .i64 u6.2.2.2.1]) hH 0 rfl rfl rfl rfl rfl tI37 rfl (List.cons_ne_nil _ _) rfl rfl rfl ?_
      intro s22 hH'
      replace hH : Hp sb s F0 s22 [Ck.ov b2 [.int .i64 u6.1, .slice A7 u6.2.1.length c7, .slice A8 u6.2.2.1.length c8, .int .i64 u6.2.2.2.1] 37, Ck.emp, Ck.ol OI 3 A7 c7 u6.2.1, Ck.ol OI 3 A8 c8 u6.2.2.1, Ck.emp, Ck.ov b9 [.int .i64 u6.1, .slice A7 u6.2.1.length c7, .slice A8 u6.2.2.1.length c8, .int .i64 u6.2.2.2.1] 37, Ck.emp, Ck.ov b4 [.slice A0p p0.length c0p, .int .i64 u20.2.1, .int .u64 u20.2.2] 113] := hH'
      clear hH'
      try dsimp only [putL, setL, evL, getL]
      refine HK_free (by kernel_rfl) ?_
      refine HX_lim (R := fun _ => True) (k := 0) (fun s' => Gro s22 s') 14 ?_
      have hR := Gro.refl s22
      have hH0 := hH
      refine HK_more [12] (by kernel_rfl) rfl (fun _ => hR) ⟨⟨_, rfl, Or.inl ⟨rfl, ?_⟩⟩, trivial⟩
      skip
      refine o_assign ?_
      try dsimp only [putL, setL, evL, getL]
      refine HK_done (fun _ => hR) (by kernel_rfl) ?_
      refine hK11 _ _ ?_
      refine HT_ret ?_
      exact hQr _ _ [.agg #[.int .i64 u6.1, .slice A7 u6.2.1.length c7, .slice A8 u6.2.2.1.length c8, .int .i64 u6.2.2.2.1], .int .i64 (IntKind.i64.wrap (u16.1 - u21))] ⟨ResV.cells rfl Try.underlying37 rfl tI37 (hH.var 0 rfl) rfl, rfl, trivial⟩ (retH (fun r => spec_DrawTakeBuf.post sb s F0 r _ _) (show some _ = some r from H) ⟨A7, c7, A8, c8, rfl, hH.sel [2, 3] (by decide)⟩)
def impl_TakeBuf.f (p0_0 : Int) (p0_1 : List (Int)) (p0_2 : List (Int)) (p0_3 : Int) (p1 : Int) : Option (Int × (List (Int)) × (List (Int)) × Int × (List (Int)) × Bool) := ((impl_GoodBuf.f p0_0 p0_1 p0_2 p0_3).bind fun u23 => if (!u23) = true then (some true) else ((impl_inRange.f p1 0 (p0_1.length : Int)).bind fun u25 => some (!u25))).bind fun (o : Bool) => match o with | x22 => (if x22 = true then (some (0, [], [], 0, [], false)) else ((impl_Buf_clone.f p0_0 p0_1 p0_2 p0_3).bind fun u31 => (impl_Buf_take.f u31.1 u31.2.1 u31.2.2.1 u31.2.2.2 p1).bind fun u37 => (impl_GoodBuf.f u31.1 u37.2.1 u37.2.2.1 u37.2.2.2).bind fun u43 => if (!u43) = true then (some (0, [], [], 0, [], false)) else (some (u31.1, u37.2.1, u37.2.2.1, u37.2.2.2, u37.1, true))))
def impl_TakeBuf.post (sb s : St) (F0 : Fp) (r : Int × (List (Int)) × (List (Int)) × Int × (List (Int)) × Bool) : Value → St → Prop := fun v s' => ∃ (A1 : Option Addr) (c1 : Nat) (A2 : Option Addr) (c2 : Nat) (A4 : Option Addr) (c4 : Nat), v = .tuple #[.agg #[.int .i64 r.1, .slice A1 r.2.1.length c1, .slice A2 r.2.2.1.length c2, .int .i64 r.2.2.2.1], .slice A4 r.2.2.2.2.1.length c4, .bool r.2.2.2.2.2] ∧ Hp sb s F0 s' [Ck.ol OI 3 A1 c1 r.2.1, Ck.ol OI 3 A2 c2 r.2.2.1, Ck.ol OI 3 A4 c4 r.2.2.2.2.1]
set_option maxRecDepth 100000 in
set_option maxHeartbeats 4000000 in
theorem impl_TakeBuf.ok (sb s : St) (F0 : Fp) (p0_0 : Int) (A0_1p : Option Addr) (c0_1p : Nat) (p0_1 : List (Int)) (A0_2p : Option Addr) (c0_2p : Nat) (p0_2 : List (Int)) (p0_3 : Int) (p1 : Int) (HRp0_1 : Rd KI sb A0_1p c0_1p p0_1) (HRp0_2 : Rd KI sb A0_2p c0_2p p0_2) (hH : Hp sb s F0 s []) (r : Int × (List (Int)) × (List (Int)) × Int × (List (Int)) × Bool) (H : impl_TakeBuf.f p0_0 p0_1 p0_2 p0_3 p1 = some r) : GCall Try.prog 33 #[.agg #[.int .i64 p0_0, .slice A0_1p p0_1.length c0_1p, .slice A0_2p p0_2.length c0_2p, .int .i64 p0_3], .int .i64 p1] s (impl_TakeBuf.post sb s F0 r) := by
  refine GCall_ofk [.cell 4 37, .tmp 5, .tmp 6] [.agg #[.int .i64 p0_0, .slice A0_1p p0_1.length c0_1p, .slice A0_2p p0_2.length c0_2p, .int .i64 p0_3], .int .i64 p1, undef, undef, undef, undef, undef, undef, undef, undef, undef, undef, undef, undef, undef, undef, undef, undef, undef, undef, undef, undef, undef, undef, undef, undef, undef, undef, undef, undef, undef] Try.func33 rfl rfl rfl ?_
  intro w Q hQr hQn hQp
  replace H := topE H
  unfold impl_TakeBuf.f at H
  refine HT_seq_k ?_
  intro K1 hK1
  refine HT_region ?_
  refine HL_cons rfl ?_
  refine o_boxH hH rfl ?_
  intro b2 s2 hH' hG
  replace hH : Hp sb s F0 s2 [Ck.ov b2 [.int .i64 p0_0, .slice A0_1p p0_1.length c0_1p, .slice A0_2p p0_2.length c0_2p, .int .i64 p0_3] 37] := hH'
  clear hH' hG
  try dsimp only [putL, setL, evL, getL]
  refine HL_cons rfl ?_
  refine o_allocH hH tI37 ?_
  intro b3 s3 hH' hG
  replace hH : Hp sb s F0 s3 [Ck.ov b2 [.int .i64 p0_0, .slice A0_1p p0_1.length c0_1p, .slice A0_2p p0_2.length c0_2p, .int .i64 p0_3] 37, Ck.ov b3 [.int .i64 0, .slice none 0 0, .slice none 0 0, .int .i64 0] 37] := hH'
  clear hH' hG
  try dsimp only [putL, setL, evL, getL]
  refine HL_cons rfl ?_
  refine o_assign ?_
  try dsimp only [putL, setL, evL, getL]
  refine HL_cons rfl ?_
  refine o_assign ?_
  try dsimp only [putL, setL, evL, getL]
  refine HL_nil ?_
  refine hK1 _ _ ?_
  refine HT_seq_k ?_
  intro K17 hK17
  refine joinH H fun G18 hG18 H => ?_
  refine HT_joinK (fun l' s' => ∃ (x22 : Bool), G18 x22 = some r ∧ l' = [.agg #[.int .i64 p0_0, .slice A0_1p p0_1.length c0_1p, .slice A0_2p p0_2.length c0_2p, .int .i64 p0_3], .int .i64 p1, .pointer (some ⟨b2, 0, none⟩), undef, .pointer (some ⟨b3, 0, none⟩), .slice none 0 0, .bool false, undef, undef, getL l' 9, getL l' 10, getL l' 11, getL l' 12, getL l' 13, getL l' 14, getL l' 15, getL l' 16, getL l' 17, getL l' 18, .bool x22, undef, undef, undef, undef, undef, undef, undef, undef, undef, undef, undef] ∧ Hp sb s F0 s' [Ck.ov b2 [.int .i64 p0_0, .slice A0_1p p0_1.length c0_1p, .slice A0_2p p0_2.length c0_2p, .int .i64 p0_3] 37, Ck.ov b3 [.int .i64 0, .slice none 0 0, .slice none 0 0, .int .i64 0] 37]) ?_ ?_
  · intro K18 hK18
    refine HT_region ?_
    refine HL_cons rfl ?_
    refine o_loads' [.int .i64 p0_0, .slice A0_1p p0_1.length c0_1p, .slice A0_2p p0_2.length c0_2p, .int .i64 p0_3] rfl Try.underlying37 rfl tI37 rfl (hH.partv 0 rfl (0) [.int .i64 p0_0, .slice A0_1p p0_1.length c0_1p, .slice A0_2p p0_2.length c0_2p, .int .i64 p0_3] rfl) ?_
    try dsimp only [putL, setL, evL, getL]
    replace H := headE H
    obtain ⟨u23, hu23, H⟩ := H
    refine HL_cons rfl ?_
    refine o_call (args := #[.agg #[.int .i64 p0_0, .slice A0_1p p0_1.length c0_1p, .slice A0_2p p0_2.length c0_2p, .int .i64 p0_3]]) Try.func28 rfl rfl rfl (impl_GoodBuf.ok sb s3 no p0_0 A0_1p c0_1p p0_1 A0_2p c0_2p p0_2 p0_3 HRp0_1 HRp0_2 (Hp.own hH.bs) _ hu23) ?_
    rintro _ s23 ⟨rfl, hD⟩
    replace hH := hH.back0 hD (Up.refl _ _ _)
    clear hD
    dsimp only [addC, setC, rmC, selC, getC] at hH
    try dsimp only [putL, setL, evL, getL]
    refine HL_cons rfl ?_
    refine o_not rfl ?_
    try dsimp only [putL, setL, evL, getL]
    refine HL_cons rfl ?_
    refine o_move ?_
    try dsimp only [putL, setL, evL, getL]
    rcases Bool.eq_false_or_eq_true (!u23) with hb24 | hb24
    · replace H := iteT hb24 H
      refine HL_skip ?_ ?_
      · exact wantF (j := 3) (b := false) (t := 12) (c := !u23) rfl rfl rfl rfl hb24
      try dsimp only [putL, setL, evL, getL]
      refine HL_skip ?_ ?_
      · exact wantF (j := 3) (b := false) (t := 12) (c := !u23) rfl rfl rfl rfl hb24
      try dsimp only [putL, setL, evL, getL]
      refine HL_skip ?_ ?_
      · exact wantF (j := 3) (b := false) (t := 12) (c := !u23) rfl rfl rfl rfl hb24
      try dsimp only [putL, setL, evL, getL]
      refine HL_skip ?_ ?_
      · exact wantF (j := 3) (b := false) (t := 12) (c := !u23) rfl rfl rfl rfl hb24
      try dsimp only [putL, setL, evL, getL]
      refine HL_skip ?_ ?_
      · exact wantF (j := 3) (b := false) (t := 12) (c := !u23) rfl rfl rfl rfl hb24
      try dsimp only [putL, setL, evL, getL]
      refine HL_skip ?_ ?_
      · exact wantF (j := 3) (b := false) (t := 12) (c := !u23) rfl rfl rfl rfl hb24
      try dsimp only [putL, setL, evL, getL]
      refine HL_cons rfl ?_
      refine o_pickT rfl hb24 ?_
      try dsimp only [putL, setL, evL, getL]
      refine HL_nil ?_
      exact hK18 _ _ ⟨true, H, rfl, hH⟩
    · replace H := iteF hb24 H
      refine HL_want ?_ ?_
      · exact wantT (j := 3) (b := false) (t := 12) (c := !u23) rfl rfl rfl rfl hb24
      refine o_move ?_
      try dsimp only [putL, setL, evL, getL]
      refine HL_want ?_ ?_
      · exact wantT (j := 3) (b := false) (t := 12) (c := !u23) rfl rfl rfl rfl hb24
      refine o_faddr' (ft := 24) (off := 1) rfl Try.underlying37 rfl tI24 (by decide) ?_
      try dsimp only [putL, setL, evL, getL]
      refine HL_want ?_ ?_
      · exact wantT (j := 3) (b := false) (t := 12) (c := !u23) rfl rfl rfl rfl hb24
      refine o_load' rfl Try.underlying24 rfl (hH.hasv 0 rfl rfl) ?_
      try dsimp only [putL, setL, evL, getL]
      refine HL_want ?_ ?_
      · exact wantT (j := 3) (b := false) (t := 12) (c := !u23) rfl rfl rfl rfl hb24
      refine o_len rfl Try.underlying24 ?_
      try dsimp only [putL, setL, evL, getL]
      replace H := headE H
      obtain ⟨u25, hu25, H⟩ := H
      refine HL_want ?_ ?_
      · exact wantT (j := 3) (b := false) (t := 12) (c := !u23) rfl rfl rfl rfl hb24
      refine o_call (args := #[.int .i64 p1, .int .i64 0, .int .i64 (p0_1.length : Int)]) Try.func105 rfl rfl rfl (impl_inRange.ok sb s23 no p1 0 (p0_1.length : Int) (Hp.own hH.bs) _ hu25) ?_
      rintro _ s25 ⟨rfl, hD⟩
      replace hH := hH.back0 hD (Up.refl _ _ _)
      clear hD
      dsimp only [addC, setC, rmC, selC, getC] at hH
      try dsimp only [putL, setL, evL, getL]
      refine HL_want ?_ ?_
      · exact wantT (j := 3) (b := false) (t := 12) (c := !u23) rfl rfl rfl rfl hb24
      refine o_not rfl ?_
      try dsimp only [putL, setL, evL, getL]
      refine HL_cons rfl ?_
      refine o_pickF rfl hb24 ?_
      try dsimp only [putL, setL, evL, getL]
      refine HL_nil ?_
      exact hK18 _ _ ⟨!u25, H, rfl, hH⟩
  · rintro l' s26 ⟨x22, H, hl, hH⟩
    generalize getL l' 9 = j9, getL l' 10 = j10, getL l' 11 = j11, getL l' 12 = j12, getL l' 13 = j13, getL l' 14 = j14, getL l' 15 = j15, getL l' 16 = j16, getL l' 17 = j17, getL l' 18 = j18 at hl
    subst hl
    replace H := hG18 _ H
    try dsimp only at H
    rcases Bool.eq_false_or_eq_true x22 with hb27 | hb27
    · replace H := iteT hb27 H
      refine HT_true (congrArg Value.bool hb27) ?_
      refine HT_seq_k ?_
      intro K28 hK28
      refine HT_region ?_
      refine HL_cons rfl ?_
      refine o_build (pl := [(0, 1), (1, 1), (2, 1), (3, 1)]) (cs := #[.int .i64 0, .slice none 0 0, .slice none 0 0, .int .i64 0]) Try.underlying37 tI37 (by kernel_rfl) (by kernel_rfl) rfl ?_
      try dsimp only [putL, setL, evL, getL]
      refine HL_cons rfl ?_
      refine o_stvH (vs := [.int .i64 0, .slice none 0 0, .slice none 0 0, .int .i64 0]) (us' := [.int .i64 0, .slice none 0 0, .slice none 0 0, .int .i64 0]) hH 1 rfl rfl rfl rfl rfl tI37 rfl (List.cons_ne_nil _ _) rfl rfl rfl ?_
      intro s29 hH'
      replace hH : Hp sb s F0 s29 [Ck.ov b2 [.int .i64 p0_0, .slice A0_1p p0_1.length c0_1p, .slice A0_2p p0_2.length c0_2p, .int .i64 p0_3] 37, Ck.ov b3 [.int .i64 0, .slice none 0 0, .slice none 0 0, .int .i64 0] 37] := hH'
      clear hH'
      try dsimp only [putL, setL, evL, getL]
      refine HL_cons rfl ?_
      refine o_assign ?_
      try dsimp only [putL, setL, evL, getL]
      refine HL_cons rfl ?_
      refine o_assign ?_
      try dsimp only [putL, setL, evL, getL]
      refine HL_nil ?_
      refine hK28 _ _ ?_
      refine HT_ret ?_
      exact hQr _ _ [.agg #[.int .i64 0, .slice none 0 0, .slice none 0 0, .int .i64 0], .slice none 0 0, .bool false] ⟨ResV.cells rfl Try.underlying37 rfl tI37 (hH.var 1 rfl) rfl, rfl, rfl, trivial⟩ (retH (fun r => impl_TakeBuf.post sb s F0 r _ _) (show some _ = some r from H) ⟨none, 0, none, 0, none, 0, rfl, (((hH.nil (K := KI) OI 3).nil (K := KI) OI 3).nil (K := KI) OI 3).sel [2, 3, 4] (by decide)⟩)
    · replace H := iteF hb27 H
      refine HT_false (congrArg Value.bool hb27) ?_
      refine HT_skip ?_
      refine hK17 _ _ ?_
      refine HT_seq_k ?_
      intro K30 hK30
      refine HT_region ?_
      refine HL_cons rfl ?_
      refine o_loads' [.int .i64 p0_0, .slice A0_1p p0_1.length c0_1p, .slice A0_2p p0_2.length c0_2p, .int .i64 p0_3] rfl Try.underlying37 rfl tI37 rfl (hH.partv 0 rfl (0) [.int .i64 p0_0, .slice A0_1p p0_1.length c0_1p, .slice A0_2p p0_2.length c0_2p, .int .i64 p0_3] rfl) ?_
      try dsimp only [putL, setL, evL, getL]
      replace H := headE H
      obtain ⟨u31, hu31, H⟩ := H
      refine HL_cons rfl ?_
      refine o_call (args := #[.agg #[.int .i64 p0_0, .slice A0_1p p0_1.length c0_1p, .slice A0_2p p0_2.length c0_2p, .int .i64 p0_3]]) Try.func116 rfl rfl rfl (impl_Buf_clone.ok sb s26 no p0_0 A0_1p c0_1p p0_1 A0_2p c0_2p p0_2 p0_3 HRp0_1 HRp0_2 (Hp.own hH.bs) _ hu31) ?_
      rintro _ s31 ⟨A32, c32, A33, c33, rfl, hD⟩
      replace hH := hH.back0 hD (Up.refl _ _ _)
      clear hD
      dsimp only [addC, setC, rmC, selC, getC] at hH
      try dsimp only [putL, setL, evL, getL]
      refine HL_cons rfl ?_
      refine o_allocH hH tI37 ?_
      intro b34 s34 hH' hG
      replace hH : Hp sb s F0 s34 [Ck.ov b2 [.int .i64 p0_0, .slice A0_1p p0_1.length c0_1p, .slice A0_2p p0_2.length c0_2p, .int .i64 p0_3] 37, Ck.ov b3 [.int .i64 0, .slice none 0 0, .slice none 0 0, .int .i64 0] 37, Ck.ol OI 3 A32 c32 u31.2.1, Ck.ol OI 3 A33 c33 u31.2.2.1, Ck.ov b34 [.int .i64 0, .slice none 0 0, .slice none 0 0, .int .i64 0] 37] := hH'
      clear hH' hG
      try dsimp only [putL, setL, evL, getL]
      refine HL_cons rfl ?_
      refine o_stvH (vs := [.int .i64 u31.1, .slice A32 u31.2.1.length c32, .slice A33 u31.2.2.1.length c33, .int .i64 u31.2.2.2]) (us' := [.int .i64 u31.1, .slice A32 u31.2.1.length c32, .slice A33 u31.2.2.1.length c33, .int .i64 u31.2.2.2]) hH 4 rfl rfl rfl rfl rfl tI37 rfl (List.cons_ne_nil _ _) rfl rfl rfl ?_
      intro s35 hH'
      replace hH : Hp sb s F0 s35 [Ck.ov b2 [.int .i64 p0_0, .slice A0_1p p0_1.length c0_1p, .slice A0_2p p0_2.length c0_2p, .int .i64 p0_3] 37, Ck.ov b3 [.int .i64 0, .slice none 0 0, .slice none 0 0, .int .i64 0] 37, Ck.ol OI 3 A32 c32 u31.2.1, Ck.ol OI 3 A33 c33 u31.2.2.1, Ck.ov b34 [.int .i64 u31.1, .slice A32 u31.2.1.length c32, .slice A33 u31.2.2.1.length c33, .int .i64 u31.2.2.2] 37] := hH'
      clear hH'
      try dsimp only [putL, setL, evL, getL]
      refine HL_nil ?_
      refine hK30 _ _ ?_
      refine HT_seq_k ?_
      intro K36 hK36
      refine HT_region ?_
      refine HL_cons rfl ?_
      refine o_move ?_
      try dsimp only [putL, setL, evL, getL]
      replace H := headE H
      obtain ⟨u37, hu37, H⟩ := H
      obtain ⟨F1, sx, hx, hC, hA, hB⟩ := hH.takeT [4] (by decide)
      dsimp only [addC, setC, rmC, selC, getC] at hA
      refine HL_cons rfl ?_
      refine o_call (args := #[.pointer (some ⟨b34, 0, none⟩), .int .i64 p1]) Try.func123 rfl rfl rfl (impl_Buf_take.ok sx s35 F1 b34 u31.1 A32 c32 u31.2.1 A33 c33 u31.2.2.1 u31.2.2.2 p1 (Ck.rdT hx (hC 2 (by decide)) rfl) (Ck.rdT hx (hC 3 (by decide)) rfl) hA _ hu37) ?_
      rintro _ s37 ⟨A38, c38, A39, c39, A40, c40, rfl, hD⟩
      replace hH := hB _ _ _ inferInstance hD
      clear hD hA hB hx hC
      dsimp only [addC, setC, rmC, selC, getC] at hH
      try dsimp only [putL, setL, evL, getL]
      refine HL_cons rfl ?_
      refine o_assign ?_
      try dsimp only [putL, setL, evL, getL]
      refine HL_nil ?_
      refine hK36 _ _ ?_
      refine HT_seq_k ?_
      intro K41 hK41
      refine HT_seq_k ?_
      intro K42 hK42
      refine HT_region ?_
      refine HL_cons rfl ?_
      refine o_loads' [.int .i64 u31.1, .slice A39 u37.2.1.length c39, .slice A40 u37.2.2.1.length c40, .int .i64 u37.2.2.2] rfl Try.underlying37 rfl tI37 rfl (hH.partv 8 rfl (0) [.int .i64 u31.1, .slice A39 u37.2.1.length c39, .slice A40 u37.2.2.1.length c40, .int .i64 u37.2.2.2] rfl) ?_
      try dsimp only [putL, setL, evL, getL]
      replace H := headE H
      obtain ⟨u43, hu43, H⟩ := H
      refine HL_cons rfl ?_
      refine o_call (args := #[.agg #[.int .i64 u31.1, .slice A39 u37.2.1.length c39, .slice A40 u37.2.2.1.length c40, .int .i64 u37.2.2.2]]) Try.func28 rfl rfl rfl (impl_GoodBuf.ok s37 s37 no u31.1 A39 c39 u37.2.1 A40 c40 u37.2.2.1 u37.2.2.2 (hH.rd 6 rfl) (hH.rd 7 rfl) (Hp.own (Bs.refl s37)) _ hu43) ?_
      rintro _ s43 ⟨rfl, hD⟩
      replace hH := hH.back0T hD
      clear hD
      dsimp only [addC, setC, rmC, selC, getC] at hH
      try dsimp only [putL, setL, evL, getL]
      refine HL_cons rfl ?_
      refine o_not rfl ?_
      try dsimp only [putL, setL, evL, getL]
      refine HL_nil ?_
      refine hK42 _ _ ?_
      rcases Bool.eq_false_or_eq_true (!u43) with hb44 | hb44
      · replace H := iteT hb44 H
        refine HT_true (congrArg Value.bool hb44) ?_
        refine HT_seq_k ?_
        intro K45 hK45
        refine HT_region ?_
        refine HL_cons rfl ?_
        refine o_build (pl := [(0, 1), (1, 1), (2, 1), (3, 1)]) (cs := #[.int .i64 0, .slice none 0 0, .slice none 0 0, .int .i64 0]) Try.underlying37 tI37 (by kernel_rfl) (by kernel_rfl) rfl ?_
        try dsimp only [putL, setL, evL, getL]
        refine HL_cons rfl ?_
        refine o_stvH (vs := [.int .i64 0, .slice none 0 0, .slice none 0 0, .int .i64 0]) (us' := [.int .i64 0, .slice none 0 0, .slice none 0 0, .int .i64 0]) hH 1 rfl rfl rfl rfl rfl tI37 rfl (List.cons_ne_nil _ _) rfl rfl rfl ?_
        intro s46 hH'
        replace hH : Hp sb s F0 s46 [Ck.ov b2 [.int .i64 p0_0, .slice A0_1p p0_1.length c0_1p, .slice A0_2p p0_2.length c0_2p, .int .i64 p0_3] 37, Ck.ov b3 [.int .i64 0, .slice none 0 0, .slice none 0 0, .int .i64 0] 37, Ck.ol OI 3 A32 c32 u31.2.1, Ck.ol OI 3 A33 c33 u31.2.2.1, Ck.emp, Ck.ol OI 3 A38 c38 u37.1, Ck.ol OI 3 A39 c39 u37.2.1, Ck.ol OI 3 A40 c40 u37.2.2.1, Ck.ov b34 [.int .i64 u31.1, .slice A39 u37.2.1.length c39, .slice A40 u37.2.2.1.length c40, .int .i64 u37.2.2.2] 37] := hH'
        clear hH'
        try dsimp only [putL, setL, evL, getL]
        refine HL_cons rfl ?_
        refine o_assign ?_
        try dsimp only [putL, setL, evL, getL]
        refine HL_cons rfl ?_
        refine o_assign ?_
        try dsimp only [putL, setL, evL, getL]
        refine HL_nil ?_
        refine hK45 _ _ ?_
        refine HT_ret ?_
        exact hQr _ _ [.agg #[.int .i64 0, .slice none 0 0, .slice none 0 0, .int .i64 0], .slice none 0 0, .bool false] ⟨ResV.cells rfl Try.underlying37 rfl tI37 (hH.var 1 rfl) rfl, rfl, rfl, trivial⟩ (retH (fun r => impl_TakeBuf.post sb s F0 r _ _) (show some _ = some r from H) ⟨none, 0, none, 0, none, 0, rfl, (((hH.nil (K := KI) OI 3).nil (K := KI) OI 3).nil (K := KI) OI 3).sel [9, 10, 11] (by decide)⟩)
      · replace H := iteF hb44 H
        refine HT_false (congrArg Value.bool hb44) ?_
        refine HT_skip ?_
        refine hK41 _ _ ?_
        refine HT_seq_k ?_
        intro K47 hK47
        refine HT_region ?_
        refine HL_cons rfl ?_
        refine o_loads' [.int .i64 u31.1, .slice A39 u37.2.1.length c39, .slice A40 u37.2.2.1.length c40, .int .i64 u37.2.2.2] rfl Try.underlying37 rfl tI37 rfl (hH.partv 8 rfl (0) [.int .i64 u31.1, .slice A39 u37.2.1.length c39, .slice A40 u37.2.2.1.length c40, .int .i64 u37.2.2.2] rfl) ?_
        try dsimp only [putL, setL, evL, getL]
        refine HL_cons rfl ?_
        refine o_move ?_
        try dsimp only [putL, setL, evL, getL]
        refine HL_cons rfl ?_
        refine o_stvH (vs := [.int .i64 u31.1, .slice A39 u37.2.1.length c39, .slice A40 u37.2.2.1.length c40, .int .i64 u37.2.2.2]) (us' := [.int .i64 u31.1, .slice A39 u37.2.1.length c39, .slice A40 u37.2.2.1.length c40, .int .i64 u37.2.2.2]) hH 1 rfl rfl rfl rfl rfl tI37 rfl (List.cons_ne_nil _ _) rfl rfl rfl ?_
        intro s48 hH'
        replace hH : Hp sb s F0 s48 [Ck.ov b2 [.int .i64 p0_0, .slice A0_1p p0_1.length c0_1p, .slice A0_2p p0_2.length c0_2p, .int .i64 p0_3] 37, Ck.ov b3 [.int .i64 u31.1, .slice A39 u37.2.1.length c39, .slice A40 u37.2.2.1.length c40, .int .i64 u37.2.2.2] 37, Ck.ol OI 3 A32 c32 u31.2.1, Ck.ol OI 3 A33 c33 u31.2.2.1, Ck.emp, Ck.ol OI 3 A38 c38 u37.1, Ck.ol OI 3 A39 c39 u37.2.1, Ck.ol OI 3 A40 c40 u37.2.2.1, Ck.ov b34 [.int .i64 u31.1, .slice A39 u37.2.1.length c39, .slice A40 u37.2.2.1.length c40, .int .i64 u37.2.2.2] 37] := hH'
        clear hH'
        try dsimp only [putL, setL, evL, getL]
        refine HL_cons rfl ?_
        refine o_assign ?_
        try dsimp only [putL, setL, evL, getL]
        refine HL_cons rfl ?_
        refine o_assign ?_
        try dsimp only [putL, setL, evL, getL]
        refine HL_nil ?_
        refine hK47 _ _ ?_
        refine HT_ret ?_
        exact hQr _ _ [.agg #[.int .i64 u31.1, .slice A39 u37.2.1.length c39, .slice A40 u37.2.2.1.length c40, .int .i64 u37.2.2.2], .slice A38 u37.1.length c38, .bool true] ⟨ResV.cells rfl Try.underlying37 rfl tI37 (hH.var 1 rfl) rfl, rfl, rfl, trivial⟩ (retH (fun r => impl_TakeBuf.post sb s F0 r _ _) (show some _ = some r from H) ⟨A39, c39, A40, c40, A38, c38, rfl, hH.sel [6, 7, 5] (by decide)⟩)
def spec_TakeBuf.f (p0_0 : Int) (p0_1 : List (Int)) (p0_2 : List (Int)) (p0_3 : Int) (p1 : Int) : Option (Int × (List (Int)) × (List (Int)) × Int × (List (Int)) × Bool) := ((spec_GoodBuf.f p0_0 p0_1 p0_2 p0_3).bind fun u23 => if (!u23) = true then (some true) else ((spec_l1In.f p1 0 (p0_1.length : Int)).bind fun u25 => some (!u25))).bind fun (o : Bool) => match o with | x22 => (if x22 = true then (some (0, [], [], 0, [], false)) else ((spec_l10Drop.f p0_0 p0_1 p0_2 p0_3 p1).bind fun u31 => (spec_GoodBuf.f u31.1 u31.2.1 u31.2.2.1 u31.2.2.2.1).bind fun u39 => if (!u39) = true then (some (0, [], [], 0, [], false)) else (some (u31.1, u31.2.1, u31.2.2.1, u31.2.2.2.1, u31.2.2.2.2, true))))
def spec_TakeBuf.post (sb s : St) (F0 : Fp) (r : Int × (List (Int)) × (List (Int)) × Int × (List (Int)) × Bool) : Value → St → Prop := fun v s' => ∃ (A1 : Option Addr) (c1 : Nat) (A2 : Option Addr) (c2 : Nat) (A4 : Option Addr) (c4 : Nat), v = .tuple #[.agg #[.int .i64 r.1, .slice A1 r.2.1.length c1, .slice A2 r.2.2.1.length c2, .int .i64 r.2.2.2.1], .slice A4 r.2.2.2.2.1.length c4, .bool r.2.2.2.2.2] ∧ Hp sb s F0 s' [Ck.ol OI 3 A1 c1 r.2.1, Ck.ol OI 3 A2 c2 r.2.2.1, Ck.ol OI 3 A4 c4 r.2.2.2.2.1]
set_option maxRecDepth 100000 in
set_option maxHeartbeats 4000000 in
theorem spec_TakeBuf.ok (sb s : St) (F0 : Fp) (p0_0 : Int) (A0_1p : Option Addr) (c0_1p : Nat) (p0_1 : List (Int)) (A0_2p : Option Addr) (c0_2p : Nat) (p0_2 : List (Int)) (p0_3 : Int) (p1 : Int) (HRp0_1 : Rd KI sb A0_1p c0_1p p0_1) (HRp0_2 : Rd KI sb A0_2p c0_2p p0_2) (hH : Hp sb s F0 s []) (r : Int × (List (Int)) × (List (Int)) × Int × (List (Int)) × Bool) (H : spec_TakeBuf.f p0_0 p0_1 p0_2 p0_3 p1 = some r) : GCall Try.prog 34 #[.agg #[.int .i64 p0_0, .slice A0_1p p0_1.length c0_1p, .slice A0_2p p0_2.length c0_2p, .int .i64 p0_3], .int .i64 p1] s (spec_TakeBuf.post sb s F0 r) := by
  refine GCall_ofk [.cell 4 37, .tmp 5, .tmp 6] [.agg #[.int .i64 p0_0, .slice A0_1p p0_1.length c0_1p, .slice A0_2p p0_2.length c0_2p, .int .i64 p0_3], .int .i64 p1, undef, undef, undef, undef, undef, undef, undef, undef, undef, undef, undef, undef, undef, undef, undef, undef, undef, undef, undef, undef, undef, undef, undef, undef, undef, undef, undef, undef, undef, undef, undef] Try.func34 rfl rfl rfl ?_
  intro w Q hQr hQn hQp
  replace H := topE H
  unfold spec_TakeBuf.f at H
  refine HT_seq_k ?_
  intro K1 hK1
  refine HT_region ?_
  refine HL_cons rfl ?_
  refine o_boxH hH rfl ?_
  intro b2 s2 hH' hG
  replace hH : Hp sb s F0 s2 [Ck.ov b2 [.int .i64 p0_0, .slice A0_1p p0_1.length c0_1p, .slice A0_2p p0_2.length c0_2p, .int .i64 p0_3] 37] := hH'
  clear hH' hG
  try dsimp only [putL, setL, evL, getL]
  refine HL_cons rfl ?_
  refine o_allocH hH tI37 ?_
  intro b3 s3 hH' hG
  replace hH : Hp sb s F0 s3 [Ck.ov b2 [.int .i64 p0_0, .slice A0_1p p0_1.length c0_1p, .slice A0_2p p0_2.length c0_2p, .int .i64 p0_3] 37, Ck.ov b3 [.int .i64 0, .slice none 0 0, .slice none 0 0, .int .i64 0] 37] := hH'
  clear hH' hG
  try dsimp only [putL, setL, evL, getL]
  refine HL_cons rfl ?_
  refine o_assign ?_
  try dsimp only [putL, setL, evL, getL]
  refine HL_cons rfl ?_
  refine o_assign ?_
  try dsimp only [putL, setL, evL, getL]
  refine HL_nil ?_
  refine hK1 _ _ ?_
  refine HT_seq_k ?_
  intro K17 hK17
  refine joinH H fun G18 hG18 H => ?_
  refine HT_joinK (fun l' s' => ∃ (x22 : Bool), G18 x22 = some r ∧ l' = [.agg #[.int .i64 p0_0, .slice A0_1p p0_1.length c0_1p, .slice A0_2p p0_2.length c0_2p, .int .i64 p0_3], .int .i64 p1, .pointer (some ⟨b2, 0, none⟩), undef, .pointer (some ⟨b3, 0, none⟩), .slice none 0 0, .bool false, undef, undef, getL l' 9, getL l' 10, getL l' 11, getL l' 12, getL l' 13, getL l' 14, getL l' 15, getL l' 16, getL l' 17, getL l' 18, .bool x22, undef, undef, undef, undef, undef, undef, undef, undef, undef, undef, undef, undef, undef] ∧ Hp sb s F0 s' [Ck.ov b2 [.int .i64 p0_0, .slice A0_1p p0_1.length c0_1p, .slice A0_2p p0_2.length c0_2p, .int .i64 p0_3] 37, Ck.ov b3 [.int .i64 0, .slice none 0 0, .slice none 0 0, .int .i64 0] 37]) ?_ ?_
  · intro K18 hK18
    refine HT_region ?_
    refine HL_cons rfl ?_
    refine o_loads' [.int .i64 p0_0, .slice A0_1p p0_1.length c0_1p, .slice A0_2p p0_2.length c0_2p, .int .i64 p0_3] rfl Try.underlying37 rfl tI37 rfl (hH.partv 0 rfl (0) [.int .i64 p0_0, .slice A0_1p p0_1.length c0_1p, .slice A0_2p p0_2.length c0_2p, .int .i64 p0_3] rfl) ?_
    try dsimp only [putL, setL, evL, getL]
    replace H := headE H
    obtain ⟨u23, hu23, H⟩ := H
    refine HL_cons rfl ?_
    refine o_call (args := #[.agg #[.int .i64 p0_0, .slice A0_1p p0_1.length c0_1p, .slice A0_2p p0_2.length c0_2p, .int .i64 p0_3]]) Try.func29 rfl rfl rfl (spec_GoodBuf.ok sb s3 no p0_0 A0_1p c0_1p p0_1 A0_2p c0_2p p0_2 p0_3 HRp0_1 HRp0_2 (Hp.own hH.bs) _ hu23) ?_
    rintro _ s23 ⟨rfl, hD⟩
    replace hH := hH.back0 hD (Up.refl _ _ _)
    clear hD
    dsimp only [addC, setC, rmC, selC, getC] at hH
    try dsimp only [putL, setL, evL, getL]
    refine HL_cons rfl ?_
    refine o_not rfl ?_
    try dsimp only [putL, setL, evL, getL]
    refine HL_cons rfl ?_
    refine o_move ?_
    try dsimp only [putL, setL, evL, getL]
    rcases Bool.eq_false_or_eq_true (!u23) with hb24 | hb24
    · replace H := iteT hb24 H
      refine HL_skip ?_ ?_
      · exact wantF (j := 3) (b := false) (t := 12) (c := !u23) rfl rfl rfl rfl hb24
      try dsimp only [putL, setL, evL, getL]
      refine HL_skip ?_ ?_
      · exact wantF (j := 3) (b := false) (t := 12) (c := !u23) rfl rfl rfl rfl hb24
      try dsimp only [putL, setL, evL, getL]
      refine HL_skip ?_ ?_
      · exact wantF (j := 3) (b := false) (t := 12) (c := !u23) rfl rfl rfl rfl hb24
      try dsimp only [putL, setL, evL, getL]
      refine HL_skip ?_ ?_
      · exact wantF (j := 3) (b := false) (t := 12) (c := !u23) rfl rfl rfl rfl hb24
      try dsimp only [putL, setL, evL, getL]
      refine HL_skip ?_ ?_
      · exact wantF (j := 3) (b := false) (t := 12) (c := !u23) rfl rfl rfl rfl hb24
      try dsimp only [putL, setL, evL, getL]
      refine HL_skip ?_ ?_
      · exact wantF (j := 3) (b := false) (t := 12) (c := !u23) rfl rfl rfl rfl hb24
      try dsimp only [putL, setL, evL, getL]
      refine HL_cons rfl ?_
      refine o_pickT rfl hb24 ?_
      try dsimp only [putL, setL, evL, getL]
      refine HL_nil ?_
      exact hK18 _ _ ⟨true, H, rfl, hH⟩
    · replace H := iteF hb24 H
      refine HL_want ?_ ?_
      · exact wantT (j := 3) (b := false) (t := 12) (c := !u23) rfl rfl rfl rfl hb24
      refine o_move ?_
      try dsimp only [putL, setL, evL, getL]
      refine HL_want ?_ ?_
      · exact wantT (j := 3) (b := false) (t := 12) (c := !u23) rfl rfl rfl rfl hb24
      refine o_faddr' (ft := 24) (off := 1) rfl Try.underlying37 rfl tI24 (by decide) ?_
      try dsimp only [putL, setL, evL, getL]
      refine HL_want ?_ ?_
      · exact wantT (j := 3) (b := false) (t := 12) (c := !u23) rfl rfl rfl rfl hb24
      refine o_load' rfl Try.underlying24 rfl (hH.hasv 0 rfl rfl) ?_
      try dsimp only [putL, setL, evL, getL]
      refine HL_want ?_ ?_
      · exact wantT (j := 3) (b := false) (t := 12) (c := !u23) rfl rfl rfl rfl hb24
      refine o_len rfl Try.underlying24 ?_
      try dsimp only [putL, setL, evL, getL]
      replace H := headE H
      obtain ⟨u25, hu25, H⟩ := H
      refine HL_want ?_ ?_
      · exact wantT (j := 3) (b := false) (t := 12) (c := !u23) rfl rfl rfl rfl hb24
      refine o_call (args := #[.int .i64 p1, .int .i64 0, .int .i64 (p0_1.length : Int)]) Try.func108 rfl rfl rfl (spec_l1In.ok sb s23 no p1 0 (p0_1.length : Int) (Hp.own hH.bs) _ hu25) ?_
      rintro _ s25 ⟨rfl, hD⟩
      replace hH := hH.back0 hD (Up.refl _ _ _)
      clear hD
      dsimp only [addC, setC, rmC, selC, getC] at hH
      try dsimp only [putL, setL, evL, getL]
      refine HL_want ?_ ?_
      · exact wantT (j := 3) (b := false) (t := 12) (c := !u23) rfl rfl rfl rfl hb24
      refine o_not rfl ?_
      try dsimp only [putL, setL, evL, getL]
      refine HL_cons rfl ?_
      refine o_pickF rfl hb24 ?_
      try dsimp only [putL, setL, evL, getL]
      refine HL_nil ?_
      exact hK18 _ _ ⟨!u25, H, rfl, hH⟩
  · rintro l' s26 ⟨x22, H, hl, hH⟩
    generalize getL l' 9 = j9, getL l' 10 = j10, getL l' 11 = j11, getL l' 12 = j12, getL l' 13 = j13, getL l' 14 = j14, getL l' 15 = j15, getL l' 16 = j16, getL l' 17 = j17, getL l' 18 = j18 at hl
    subst hl
    replace H := hG18 _ H
    try dsimp only at H
    rcases Bool.eq_false_or_eq_true x22 with hb27 | hb27
    · replace H := iteT hb27 H
      refine HT_true (congrArg Value.bool hb27) ?_
      refine HT_seq_k ?_
      intro K28 hK28
      refine HT_region ?_
      refine HL_cons rfl ?_
      refine o_build (pl := [(0, 1), (1, 1), (2, 1), (3, 1)]) (cs := #[.int .i64 0, .slice none 0 0, .slice none 0 0, .int .i64 0]) Try.underlying37 tI37 (by kernel_rfl) (by kernel_rfl) rfl ?_
      try dsimp only [putL, setL, evL, getL]
      refine HL_cons rfl ?_
      refine o_stvH (vs := [.int .i64 0, .slice none 0 0, .slice none 0 0, .int .i64 0]) (us' := [.int .i64 0, .slice none 0 0, .slice none 0 0, .int .i64 0]) hH 1 rfl rfl rfl rfl rfl tI37 rfl (List.cons_ne_nil _ _) rfl rfl rfl ?_
      intro s29 hH'
      replace hH : Hp sb s F0 s29 [Ck.ov b2 [.int .i64 p0_0, .slice A0_1p p0_1.length c0_1p, .slice A0_2p p0_2.length c0_2p, .int .i64 p0_3] 37, Ck.ov b3 [.int .i64 0, .slice none 0 0, .slice none 0 0, .int .i64 0] 37] := hH'
      clear hH'
      try dsimp only [putL, setL, evL, getL]
      refine HL_cons rfl ?_
      refine o_assign ?_
      try dsimp only [putL, setL, evL, getL]
      refine HL_cons rfl ?_
      refine o_assign ?_
      try dsimp only [putL, setL, evL, getL]
      refine HL_nil ?_
      refine hK28 _ _ ?_
      refine HT_ret ?_
      exact hQr _ _ [.agg #[.int .i64 0, .slice none 0 0, .slice none 0 0, .int .i64 0], .slice none 0 0, .bool false] ⟨ResV.cells rfl Try.underlying37 rfl tI37 (hH.var 1 rfl) rfl, rfl, rfl, trivial⟩ (retH (fun r => spec_TakeBuf.post sb s F0 r _ _) (show some _ = some r from H) ⟨none, 0, none, 0, none, 0, rfl, (((hH.nil (K := KI) OI 3).nil (K := KI) OI 3).nil (K := KI) OI 3).sel [2, 3, 4] (by decide)⟩)
    · replace H := iteF hb27 H
      refine HT_false (congrArg Value.bool hb27) ?_
      refine HT_skip ?_
      refine hK17 _ _ ?_
      refine HT_seq_k ?_
      intro K30 hK30
      refine HT_region ?_
      refine HL_cons rfl ?_
      refine o_loads' [.int .i64 p0_0, .slice A0_1p p0_1.length c0_1p, .slice A0_2p p0_2.length c0_2p, .int .i64 p0_3] rfl Try.underlying37 rfl tI37 rfl (hH.partv 0 rfl (0) [.int .i64 p0_0, .slice A0_1p p0_1.length c0_1p, .slice A0_2p p0_2.length c0_2p, .int .i64 p0_3] rfl) ?_
      try dsimp only [putL, setL, evL, getL]
      refine HL_cons rfl ?_
      refine o_move ?_
      try dsimp only [putL, setL, evL, getL]
      replace H := headE H
      obtain ⟨u31, hu31, H⟩ := H
      refine HL_cons rfl ?_
      refine o_call (args := #[.agg #[.int .i64 p0_0, .slice A0_1p p0_1.length c0_1p, .slice A0_2p p0_2.length c0_2p, .int .i64 p0_3], .int .i64 p1]) Try.func124 rfl rfl rfl (spec_l10Drop.ok sb s26 no p0_0 A0_1p c0_1p p0_1 A0_2p c0_2p p0_2 p0_3 p1 HRp0_1 HRp0_2 (Hp.own hH.bs) _ hu31) ?_
      rintro _ s31 ⟨A32, c32, A33, c33, A34, c34, rfl, hD⟩
      replace hH := hH.back0 hD (Up.refl _ _ _)
      clear hD
      dsimp only [addC, setC, rmC, selC, getC] at hH
      try dsimp only [putL, setL, evL, getL]
      refine HL_cons rfl ?_
      refine o_move ?_
      try dsimp only [putL, setL, evL, getL]
      refine HL_cons rfl ?_
      refine o_extract rfl rfl ?_
      try dsimp only [putL, setL, evL, getL]
      refine HL_cons rfl ?_
      refine o_extract rfl rfl ?_
      try dsimp only [putL, setL, evL, getL]
      refine HL_cons rfl ?_
      refine o_allocH hH tI37 ?_
      intro b35 s35 hH' hG
      replace hH : Hp sb s F0 s35 [Ck.ov b2 [.int .i64 p0_0, .slice A0_1p p0_1.length c0_1p, .slice A0_2p p0_2.length c0_2p, .int .i64 p0_3] 37, Ck.ov b3 [.int .i64 0, .slice none 0 0, .slice none 0 0, .int .i64 0] 37, Ck.ol OI 3 A32 c32 u31.2.1, Ck.ol OI 3 A33 c33 u31.2.2.1, Ck.ol OI 3 A34 c34 u31.2.2.2.2, Ck.ov b35 [.int .i64 0, .slice none 0 0, .slice none 0 0, .int .i64 0] 37] := hH'
      clear hH' hG
      try dsimp only [putL, setL, evL, getL]
      refine HL_cons rfl ?_
      refine o_stvH (vs := [.int .i64 u31.1, .slice A32 u31.2.1.length c32, .slice A33 u31.2.2.1.length c33, .int .i64 u31.2.2.2.1]) (us' := [.int .i64 u31.1, .slice A32 u31.2.1.length c32, .slice A33 u31.2.2.1.length c33, .int .i64 u31.2.2.2.1]) hH 5 rfl rfl rfl rfl rfl tI37 rfl (List.cons_ne_nil _ _) rfl rfl rfl ?_
      intro s36 hH'
      replace hH : Hp sb s F0 s36 [Ck.ov b2 [.int .i64 p0_0, .slice A0_1p p0_1.length c0_1p, .slice A0_2p p0_2.length c0_2p, .int .i64 p0_3] 37, Ck.ov b3 [.int .i64 0, .slice none 0 0, .slice none 0 0, .int .i64 0] 37, Ck.ol OI 3 A32 c32 u31.2.1, Ck.ol OI 3 A33 c33 u31.2.2.1, Ck.ol OI 3 A34 c34 u31.2.2.2.2, Ck.ov b35 [.int .i64 u31.1, .slice A32 u31.2.1.length c32, .slice A33 u31.2.2.1.length c33, .int .i64 u31.2.2.2.1] 37] := hH'
      clear hH'
      try dsimp only [putL, setL, evL, getL]
      refine HL_cons rfl ?_
      refine o_assign ?_
      try dsimp only [putL, setL, evL, getL]
      refine HL_nil ?_
      refine hK30 _ _ ?_
      refine HT_seq_k ?_
      intro K37 hK37
      refine HT_seq_k ?_
      intro K38 hK38
      refine HT_region ?_
      refine HL_cons rfl ?_
      refine o_loads' [.int .i64 u31.1, .slice A32 u31.2.1.length c32, .slice A33 u31.2.2.1.length c33, .int .i64 u31.2.2.2.1] rfl Try.underlying37 rfl tI37 rfl (hH.partv 5 rfl (0) [.int .i64 u31.1, .slice A32 u31.2.1.length c32, .slice A33 u31.2.2.1.length c33, .int .i64 u31.2.2.2.1] rfl) ?_
      try dsimp only [putL, setL, evL, getL]
      replace H := headE H
      obtain ⟨u39, hu39, H⟩ := H
      refine HL_cons rfl ?_
      refine o_call (args := #[.agg #[.int .i64 u31.1, .slice A32 u31.2.1.length c32, .slice A33 u31.2.2.1.length c33, .int .i64 u31.2.2.2.1]]) Try.func29 rfl rfl rfl (spec_GoodBuf.ok s36 s36 no u31.1 A32 c32 u31.2.1 A33 c33 u31.2.2.1 u31.2.2.2.1 (hH.rd 2 rfl) (hH.rd 3 rfl) (Hp.own (Bs.refl s36)) _ hu39) ?_
      rintro _ s39 ⟨rfl, hD⟩
      replace hH := hH.back0T hD
      clear hD
      dsimp only [addC, setC, rmC, selC, getC] at hH
      try dsimp only [putL, setL, evL, getL]
      refine HL_cons rfl ?_
      refine o_not rfl ?_
      try dsimp only [putL, setL, evL, getL]
      refine HL_nil ?_
      refine hK38 _ _ ?_
      rcases Bool.eq_false_or_eq_true (!u39) with hb40 | hb40
      · replace H := iteT hb40 H
        refine HT_true (congrArg Value.bool hb40) ?_
        refine HT_seq_k ?_
        intro K41 hK41
        refine HT_region ?_
        refine HL_cons rfl ?_
        refine o_build (pl := [(0, 1), (1, 1), (2, 1), (3, 1)]) (cs := #[.int .i64 0, .slice none 0 0, .slice none 0 0, .int .i64 0]) Try.underlying37 tI37 (by kernel_rfl) (by kernel_rfl) rfl ?_
        try dsimp only [putL, setL, evL, getL]
        refine HL_cons rfl ?_
        refine o_stvH (vs := [.int .i64 0, .slice none 0 0, .slice none 0 0, .int .i64 0]) (us' := [.int .i64 0, .slice none 0 0, .slice none 0 0, .int .i64 0]) hH 1 rfl rfl rfl rfl rfl tI37 rfl (List.cons_ne_nil _ _) rfl rfl rfl ?_
        intro s42 hH'
        replace hH : Hp sb s F0 s42 [Ck.ov b2 [.int .i64 p0_0, .slice A0_1p p0_1.length c0_1p, .slice A0_2p p0_2.length c0_2p, .int .i64 p0_3] 37, Ck.ov b3 [.int .i64 0, .slice none 0 0, .slice none 0 0, .int .i64 0] 37, Ck.ol OI 3 A32 c32 u31.2.1, Ck.ol OI 3 A33 c33 u31.2.2.1, Ck.ol OI 3 A34 c34 u31.2.2.2.2, Ck.ov b35 [.int .i64 u31.1, .slice A32 u31.2.1.length c32, .slice A33 u31.2.2.1.length c33, .int .i64 u31.2.2.2.1] 37] := hH'
        clear hH'
        try dsimp only [putL, setL, evL, getL]
        refine HL_cons rfl ?_
        refine o_assign ?_
        try dsimp only [putL, setL, evL, getL]
        refine HL_cons rfl ?_
        refine o_assign ?_
        try dsimp only [putL, setL, evL, getL]
        refine HL_nil ?_
        refine hK41 _ _ ?_
        refine HT_ret ?_
        exact hQr _ _ [.agg #[.int .i64 0, .slice none 0 0, .slice none 0 0, .int .i64 0], .slice none 0 0, .bool false] ⟨ResV.cells rfl Try.underlying37 rfl tI37 (hH.var 1 rfl) rfl, rfl, rfl, trivial⟩ (retH (fun r => spec_TakeBuf.post sb s F0 r _ _) (show some _ = some r from H) ⟨none, 0, none, 0, none, 0, rfl, (((hH.nil (K := KI) OI 3).nil (K := KI) OI 3).nil (K := KI) OI 3).sel [6, 7, 8] (by decide)⟩)
      · replace H := iteF hb40 H
        refine HT_false (congrArg Value.bool hb40) ?_
        refine HT_skip ?_
        refine hK37 _ _ ?_
        refine HT_seq_k ?_
        intro K43 hK43
        refine HT_region ?_
        refine HL_cons rfl ?_
        refine o_loads' [.int .i64 u31.1, .slice A32 u31.2.1.length c32, .slice A33 u31.2.2.1.length c33, .int .i64 u31.2.2.2.1] rfl Try.underlying37 rfl tI37 rfl (hH.partv 5 rfl (0) [.int .i64 u31.1, .slice A32 u31.2.1.length c32, .slice A33 u31.2.2.1.length c33, .int .i64 u31.2.2.2.1] rfl) ?_
        try dsimp only [putL, setL, evL, getL]
        refine HL_cons rfl ?_
        refine o_move ?_
        try dsimp only [putL, setL, evL, getL]
        refine HL_cons rfl ?_
        refine o_stvH (vs := [.int .i64 u31.1, .slice A32 u31.2.1.length c32, .slice A33 u31.2.2.1.length c33, .int .i64 u31.2.2.2.1]) (us' := [.int .i64 u31.1, .slice A32 u31.2.1.length c32, .slice A33 u31.2.2.1.length c33, .int .i64 u31.2.2.2.1]) hH 1 rfl rfl rfl rfl rfl tI37 rfl (List.cons_ne_nil _ _) rfl rfl rfl ?_
        intro s44 hH'
        replace hH : Hp sb s F0 s44 [Ck.ov b2 [.int .i64 p0_0, .slice A0_1p p0_1.length c0_1p, .slice A0_2p p0_2.length c0_2p, .int .i64 p0_3] 37, Ck.ov b3 [.int .i64 u31.1, .slice A32 u31.2.1.length c32, .slice A33 u31.2.2.1.length c33, .int .i64 u31.2.2.2.1] 37, Ck.ol OI 3 A32 c32 u31.2.1, Ck.ol OI 3 A33 c33 u31.2.2.1, Ck.ol OI 3 A34 c34 u31.2.2.2.2, Ck.ov b35 [.int .i64 u31.1, .slice A32 u31.2.1.length c32, .slice A33 u31.2.2.1.length c33, .int .i64 u31.2.2.2.1] 37] := hH'
        clear hH'
        try dsimp only [putL, setL, evL, getL]
        refine HL_cons rfl ?_
        refine o_assign ?_
        try dsimp only [putL, setL, evL, getL]
        refine HL_cons rfl ?_
        refine o_assign ?_
        try dsimp only [putL, setL, evL, getL]
        refine HL_nil ?_
        refine hK43 _ _ ?_
        refine HT_ret ?_
        exact hQr _ _ [.agg #[.int .i64 u31.1, .slice A32 u31.2.1.length c32, .slice A33 u31.2.2.1.length c33, .int .i64 u31.2.2.2.1], .slice A34 u31.2.2.2.2.length c34, .bool true] ⟨ResV.cells rfl Try.underlying37 rfl tI37 (hH.var 1 rfl) rfl, rfl, rfl, trivial⟩ (retH (fun r => spec_TakeBuf.post sb s F0 r _ _) (show some _ = some r from H) ⟨A32, c32, A33, c33, A34, c34, rfl, hH.sel [2, 3, 4] (by decide)⟩)
def impl_ByteOf.f (p0_0 : Int) (p0_1 : List (Int)) (p0_2 : List (Int)) (p0_3 : Int) (p1 : Int) : Option (Int × Bool) := ((impl_GoodBuf.f p0_0 p0_1 p0_2 p0_3).bind fun u21 => if (!u21) = true then (some true) else ((impl_inRange.f p1 0 (p0_1.length : Int)).bind fun u23 => some (!u23))).bind fun (o : Bool) => match o with | x20 => (if x20 = true then (some (0, false)) else ((impl_Buf_bytes.f p0_0 p0_1 p0_2 p0_3 p1).bind fun u28 => some (u28, true)))
def impl_ByteOf.post (sb s : St) (F0 : Fp) (r : Int × Bool) : Value → St → Prop := fun v s' => v = .tuple #[.int .i64 r.1, .bool r.2] ∧ Hp sb s F0 s' []
set_option maxRecDepth 100000 in
set_option maxHeartbeats 4000000 in
theorem impl_ByteOf.ok (sb s : St) (F0 : Fp) (p0_0 : Int) (A0_1p : Option Addr) (c0_1p : Nat) (p0_1 : List (Int)) (A0_2p : Option Addr) (c0_2p : Nat) (p0_2 : List (Int)) (p0_3 : Int) (p1 : Int) (HRp0_1 : Rd KI sb A0_1p c0_1p p0_1) (HRp0_2 : Rd KI sb A0_2p c0_2p p0_2) (hH : Hp sb s F0 s []) (r : Int × Bool) (H : impl_ByteOf.f p0_0 p0_1 p0_2 p0_3 p1 = some r) : GCall Try.prog 35 #[.agg #[.int .i64 p0_0, .slice A0_1p p0_1.length c0_1p, .slice A0_2p p0_2.length c0_2p, .int .i64 p0_3], .int .i64 p1] s (impl_ByteOf.post sb s F0 r) := by
  refine GCall_ofk [.tmp 4, .tmp 5] [.agg #[.int .i64 p0_0, .slice A0_1p p0_1.length c0_1p, .slice A0_2p p0_2.length c0_2p, .int .i64 p0_3], .int .i64 p1, undef, undef, undef, undef, undef, undef, undef, undef, undef, undef, undef, undef, undef, undef, undef, undef, undef, undef] Try.func35 rfl rfl rfl ?_
  intro w Q hQr hQn hQp
  replace H := topE H
  unfold impl_ByteOf.f at H
  refine HT_seq_k ?_
  intro K1 hK1
  refine HT_region ?_
  refine HL_cons rfl ?_
  refine o_boxH hH rfl ?_
  intro b2 s2 hH' hG
  replace hH : Hp sb s F0 s2 [Ck.ov b2 [.int .i64 p0_0, .slice A0_1p p0_1.length c0_1p, .slice A0_2p p0_2.length c0_2p, .int .i64 p0_3] 37] := hH'
  clear hH' hG
  try dsimp only [putL, setL, evL, getL]
  refine HL_cons rfl ?_
  refine o_assign ?_
  try dsimp only [putL, setL, evL, getL]
  refine HL_cons rfl ?_
  refine o_assign ?_
  try dsimp only [putL, setL, evL, getL]
  refine HL_nil ?_
  refine hK1 _ _ ?_
  refine HT_seq_k ?_
  intro K15 hK15
  refine joinH H fun G16 hG16 H => ?_
  refine HT_joinK (fun l' s' => ∃ (x20 : Bool), G16 x20 = some r ∧ l' = [.agg #[.int .i64 p0_0, .slice A0_1p p0_1.length c0_1p, .slice A0_2p p0_2.length c0_2p, .int .i64 p0_3], .int .i64 p1, .pointer (some ⟨b2, 0, none⟩), undef, .int .i64 0, .bool false, getL l' 6, getL l' 7, getL l' 8, getL l' 9, getL l' 10, getL l' 11, getL l' 12, getL l' 13, getL l' 14, getL l' 15, .bool x20, undef, undef, undef] ∧ Hp sb s F0 s' [Ck.ov b2 [.int .i64 p0_0, .slice A0_1p p0_1.length c0_1p, .slice A0_2p p0_2.length c0_2p, .int .i64 p0_3] 37]) ?_ ?_
  · intro K16 hK16
    refine HT_region ?_
    refine HL_cons rfl ?_
    refine o_loads' [.int .i64 p0_0, .slice A0_1p p0_1.length c0_1p, .slice A0_2p p0_2.length c0_2p, .int .i64 p0_3] rfl Try.underlying37 rfl tI37 rfl (hH.partv 0 rfl (0) [.int .i64 p0_0, .slice A0_1p p0_1.length c0_1p, .slice A0_2p p0_2.length c0_2p, .int .i64 p0_3] rfl) ?_
    try dsimp only [putL, setL, evL, getL]
    replace H := headE H
    obtain ⟨u21, hu21, H⟩ := H
    refine HL_cons rfl ?_
    refine o_call (args := #[.agg #[.int .i64 p0_0, .slice A0_1p p0_1.length c0_1p, .slice A0_2p p0_2.length c0_2p, .int .i64 p0_3]]) Try.func28 rfl rfl rfl (impl_GoodBuf.ok sb s2 no p0_0 A0_1p c0_1p p0_1 A0_2p c0_2p p0_2 p0_3 HRp0_1 HRp0_2 (Hp.own hH.bs) _ hu21) ?_
    rintro _ s21 ⟨rfl, hD⟩
    replace hH := hH.back0 hD (Up.refl _ _ _)
    clear hD
    dsimp only [addC, setC, rmC, selC, getC] at hH
    try dsimp only [putL, setL, evL, getL]
    refine HL_cons rfl ?_
    refine o_not rfl ?_
    try dsimp only [putL, setL, evL, getL]
    refine HL_cons rfl ?_
    refine o_move ?_
    try dsimp only [putL, setL, evL, getL]
    rcases Bool.eq_false_or_eq_true (!u21) with hb22 | hb22
    · replace H := iteT hb22 H
      refine HL_skip ?_ ?_
      · exact wantF (j := 3) (b := false) (t := 9) (c := !u21) rfl rfl rfl rfl hb22
      try dsimp only [putL, setL, evL, getL]
      refine HL_skip ?_ ?_
      · exact wantF (j := 3) (b := false) (t := 9) (c := !u21) rfl rfl rfl rfl hb22
      try dsimp only [putL, setL, evL, getL]
      refine HL_skip ?_ ?_
      · exact wantF (j := 3) (b := false) (t := 9) (c := !u21) rfl rfl rfl rfl hb22
      try dsimp only [putL, setL, evL, getL]
      refine HL_skip ?_ ?_
      · exact wantF (j := 3) (b := false) (t := 9) (c := !u21) rfl rfl rfl rfl hb22
      try dsimp only [putL, setL, evL, getL]
      refine HL_skip ?_ ?_
      · exact wantF (j := 3) (b := false) (t := 9) (c := !u21) rfl rfl rfl rfl hb22
      try dsimp only [putL, setL, evL, getL]
      refine HL_skip ?_ ?_
      · exact wantF (j := 3) (b := false) (t := 9) (c := !u21) rfl rfl rfl rfl hb22
      try dsimp only [putL, setL, evL, getL]
      refine HL_cons rfl ?_
      refine o_pickT rfl hb22 ?_
      try dsimp only [putL, setL, evL, getL]
      refine HL_nil ?_
      exact hK16 _ _ ⟨true, H, rfl, hH⟩
    · replace H := iteF hb22 H
      refine HL_want ?_ ?_
      · exact wantT (j := 3) (b := false) (t := 9) (c := !u21) rfl rfl rfl rfl hb22
      refine o_move ?_
      try dsimp only [putL, setL, evL, getL]
      refine HL_want ?_ ?_
      · exact wantT (j := 3) (b := false) (t := 9) (c := !u21) rfl rfl rfl rfl hb22
      refine o_faddr' (ft := 24) (off := 1) rfl Try.underlying37 rfl tI24 (by decide) ?_
      try dsimp only [putL, setL, evL, getL]
      refine HL_want ?_ ?_
      · exact wantT (j := 3) (b := false) (t := 9) (c := !u21) rfl rfl rfl rfl hb22
      refine o_load' rfl Try.underlying24 rfl (hH.hasv 0 rfl rfl) ?_
      try dsimp only [putL, setL, evL, getL]
      refine HL_want ?_ ?_
      · exact wantT (j := 3) (b := false) (t := 9) (c := !u21) rfl rfl rfl rfl hb22
      refine o_len rfl Try.underlying24 ?_
      try dsimp only [putL, setL, evL, getL]
      replace H := headE H
      obtain ⟨u23, hu23, H⟩ := H
      refine HL_want ?_ ?_
      · exact wantT (j := 3) (b := false) (t := 9) (c := !u21) rfl rfl rfl rfl hb22
      refine o_call (args := #[.int .i64 p1, .int .i64 0, .int .i64 (p0_1.length : Int)]) Try.func105 rfl rfl rfl (impl_inRange.ok sb s21 no p1 0 (p0_1.length : Int) (Hp.own hH.bs) _ hu23) ?_
      rintro _ s23 ⟨rfl, hD⟩
      replace hH := hH.back0 hD (Up.refl _ _ _)
      clear hD
      dsimp only [addC, setC, rmC, selC, getC] at hH
      try dsimp only [putL, setL, evL, getL]
      refine HL_want ?_ ?_
      · exact wantT (j := 3) (b := false) (t := 9) (c := !u21) rfl rfl rfl rfl hb22
      refine o_not rfl ?_
      try dsimp only [putL, setL, evL, getL]
      refine HL_cons rfl ?_
      refine o_pickF rfl hb22 ?_
      try dsimp only [putL, setL, evL, getL]
      refine HL_nil ?_
      exact hK16 _ _ ⟨!u23, H, rfl, hH⟩
  · rintro l' s24 ⟨x20, H, hl, hH⟩
    generalize getL l' 6 = j6, getL l' 7 = j7, getL l' 8 = j8, getL l' 9 = j9, getL l' 10 = j10, getL l' 11 = j11, getL l' 12 = j12, getL l' 13 = j13, getL l' 14 = j14, getL l' 15 = j15 at hl
    subst hl
    replace H := hG16 _ H
    try dsimp only at H
    rcases Bool.eq_false_or_eq_true x20 with hb25 | hb25
    · replace H := iteT hb25 H
      refine HT_true (congrArg Value.bool hb25) ?_
      refine HT_seq_k ?_
      intro K26 hK26
      refine HT_region ?_
      refine HL_cons rfl ?_
      refine o_assign ?_
      try dsimp only [putL, setL, evL, getL]
      refine HL_cons rfl ?_
      refine o_assign ?_
      try dsimp only [putL, setL, evL, getL]
      refine HL_nil ?_
      refine hK26 _ _ ?_
      refine HT_ret ?_
      exact hQr _ _ [.int .i64 0, .bool false] ⟨rfl, rfl, trivial⟩ (retH (fun r => impl_ByteOf.post sb s F0 r _ _) (show some _ = some r from H) ⟨rfl, hH.sel [] (by decide)⟩)
    · replace H := iteF hb25 H
      refine HT_false (congrArg Value.bool hb25) ?_
      refine HT_skip ?_
      refine hK15 _ _ ?_
      refine HT_seq_k ?_
      intro K27 hK27
      refine HT_region ?_
      refine HL_cons rfl ?_
      refine o_loads' [.int .i64 p0_0, .slice A0_1p p0_1.length c0_1p, .slice A0_2p p0_2.length c0_2p, .int .i64 p0_3] rfl Try.underlying37 rfl tI37 rfl (hH.partv 0 rfl (0) [.int .i64 p0_0, .slice A0_1p p0_1.length c0_1p, .slice A0_2p p0_2.length c0_2p, .int .i64 p0_3] rfl) ?_
      try dsimp only [putL, setL, evL, getL]
      refine HL_cons rfl ?_
      refine o_move ?_
      try dsimp only [putL, setL, evL, getL]
      replace H := headE H
      obtain ⟨u28, hu28, H⟩ := H
      refine HL_cons rfl ?_
      refine o_call (args := #[.agg #[.int .i64 p0_0, .slice A0_1p p0_1.length c0_1p, .slice A0_2p p0_2.length c0_2p, .int .i64 p0_3], .int .i64 p1]) Try.func125 rfl rfl rfl (impl_Buf_bytes.ok sb s24 no p0_0 A0_1p c0_1p p0_1 A0_2p c0_2p p0_2 p0_3 p1 HRp0_1 HRp0_2 (Hp.own hH.bs) _ hu28) ?_
      rintro _ s28 ⟨rfl, hD⟩
      replace hH := hH.back0 hD (Up.refl _ _ _)
      clear hD
      dsimp only [addC, setC, rmC, selC, getC] at hH
      try dsimp only [putL, setL, evL, getL]
      refine HL_cons rfl ?_
      refine o_assign ?_
      try dsimp only [putL, setL, evL, getL]
      refine HL_cons rfl ?_
      refine o_assign ?_
      try dsimp only [putL, setL, evL, getL]
      refine HL_nil ?_
      refine hK27 _ _ ?_
      refine HT_ret ?_
      exact hQr _ _ [.int .i64 u28, .bool true] ⟨rfl, rfl, trivial⟩ (retH (fun r => impl_ByteOf.post sb s F0 r _ _) (show some _ = some r from H) ⟨rfl, hH.sel [] (by decide)⟩)
def spec_l10Byte.l1 (x6 : List (Int)) : Nat → Int → Int → Option Int
  | 0, _, _ => none
  | kf + 1, x38, x39 => if (decide (x39 < (x6.length : Int))) = true then ((rd? x6 x39).bind fun u54 => spec_l10Byte.l1 x6 kf (IntKind.i64.wrap (x38 + u54)) (IntKind.i64.wrap (x39 + 1))) else (some x38)
def spec_l10Byte.f (p0_0 : Int) (p0_1 : List (Int)) (p0_2 : List (Int)) (p0_3 : Int) (p1 : Int) : Option Int := (cut? p0_2 0 p1).bind fun x6 => (spec_l10Byte.l1 x6 ((((x6.length : Int)) - (0)).toNat + 2) p0_3 0).bind fun (o : Int) => match o with | x31 => (some x31)
def spec_l10Byte.post (sb s : St) (F0 : Fp) (r : Int) : Value → St → Prop := fun v s' => v = .int .i64 r ∧ Hp sb s F0 s' []
set_option maxRecDepth 100000 in
set_option maxHeartbeats 4000000 in
theorem spec_l10Byte.ok (sb s : St) (F0 : Fp) (p0_0 : Int) (A0_1p : Option Addr) (c0_1p : Nat) (p0_1 : List (Int)) (A0_2p : Option Addr) (c0_2p : Nat) (p0_2 : List (Int)) (p0_3 : Int) (p1 : Int) (HRp0_1 : Rd KI sb A0_1p c0_1p p0_1) (HRp0_2 : Rd KI sb A0_2p c0_2p p0_2) (hH : Hp sb s F0 s []) (r : Int) (H : spec_l10Byte.f p0_0 p0_1 p0_2 p0_3 p1 = some r) : GCall Try.prog 126 #[.agg #[.int .i64 p0_0, .slice A0_1p p0_1.length c0_1p, .slice A0_2p p0_2.length c0_2p, .int .i64 p0_3], .int .i64 p1] s (spec_l10Byte.post sb s F0 r) := by
  refine GCall_ofk [.tmp 4] [.agg #[.int .i64 p0_0, .slice A0_1p p0_1.length c0_1p, .slice A0_2p p0_2.length c0_2p, .int .i64 p0_3], .int .i64 p1, undef, undef, undef, undef, undef, undef, undef, undef, undef, undef, undef, undef, undef, undef, undef, undef, undef, undef, undef, undef, undef, undef] Try.func126 rfl rfl rfl ?_
  intro w Q hQr hQn hQp
  replace H := topE H
  unfold spec_l10Byte.f at H
  refine HT_seq_k ?_
  intro K1 hK1
  refine HT_region ?_
  refine HL_cons rfl ?_
  refine o_boxH hH rfl ?_
  intro b2 s2 hH' hG
  replace hH : Hp sb s F0 s2 [Ck.ov b2 [.int .i64 p0_0, .slice A0_1p p0_1.length c0_1p, .slice A0_2p p0_2.length c0_2p, .int .i64 p0_3] 37] := hH'
  clear hH' hG
  try dsimp only [putL, setL, evL, getL]
  refine HL_cons rfl ?_
  refine o_assign ?_
  try dsimp only [putL, setL, evL, getL]
  refine HL_nil ?_
  refine hK1 _ _ ?_
  refine HT_seq_k ?_
  intro K3 hK3
  refine HT_region ?_
  refine HL_cons rfl ?_
  refine o_faddr' (ft := 3) (off := 3) rfl Try.underlying37 rfl tI3 (by decide) ?_
  try dsimp only [putL, setL, evL, getL]
  refine HL_cons rfl ?_
  refine o_load' rfl Try.underlying3 rfl (hH.hasv 0 rfl rfl) ?_
  try dsimp only [putL, setL, evL, getL]
  refine HL_cons rfl ?_
  refine o_assign ?_
  try dsimp only [putL, setL, evL, getL]
  refine HL_nil ?_
  refine hK3 _ _ ?_
  refine HT_seq_k ?_
  intro K4 hK4
  refine HT_seq_k ?_
  intro K5 hK5
  refine HT_region ?_
  refine HL_cons rfl ?_
  refine o_faddr' (ft := 24) (off := 2) rfl Try.underlying37 rfl tI24 (by decide) ?_
  try dsimp only [putL, setL, evL, getL]
  refine HL_cons rfl ?_
  refine o_load' rfl Try.underlying24 rfl (hH.hasv 0 rfl rfl) ?_
  try dsimp only [putL, setL, evL, getL]
  refine HL_cons rfl ?_
  refine o_move ?_
  try dsimp only [putL, setL, evL, getL]
  replace H := headE H
  obtain ⟨x6, hx6, H⟩ := H
  refine HL_cons rfl ?_
  refine o_cutA (xs := p0_2) (kl := .i64) (kh := .i64) (L := 0) (H := p1) rfl rfl rfl Try.underlying24 tI3 HRp0_2.1 hx6 ?_
  have D6 := HRp0_2.cut hx6
  try dsimp only [putL, setL, evL, getL]
  refine HL_cons rfl ?_
  refine o_len rfl Try.underlying24 ?_
  try dsimp only [putL, setL, evL, getL]
  refine HL_cons rfl ?_
  refine o_move ?_
  try dsimp only [putL, setL, evL, getL]
  refine HL_nil ?_
  refine hK5 _ _ ?_
  refine joinH H fun G7 hG7 H => ?_
  refine HT_toK (fun l' s' => ∃ (x31 : Int), G7 x31 = some r ∧ l' = [.agg #[.int .i64 p0_0, .slice A0_1p p0_1.length c0_1p, .slice A0_2p p0_2.length c0_2p, .int .i64 p0_3], .int .i64 p1, .pointer (some ⟨b2, 0, none⟩), undef, .int .i64 0, .int .i64 x31, undef, getL l' 7, .pointer (some ⟨b2, 0 + 3, none⟩), .int .i64 p0_3, .pointer (some ⟨b2, 0 + 2, none⟩), .slice A0_2p p0_2.length c0_2p, .int .i64 p1, .slice (cutA A0_2p c0_2p (Int.toNat 0) (Kd.sz KI)) x6.length (c0_2p - Int.toNat 0), .int .i64 (x6.length : Int), getL l' 15, getL l' 16, getL l' 17, getL l' 18, getL l' 19, getL l' 20, getL l' 21, getL l' 22, undef] ∧ Hp sb s F0 s' []) ?_ ?_
  · intro K7 hK7
    refine HT_block ?_
    refine HT_loopK (fun kf l' s' => ∃ (x38 : Int) (x39 : Int), (spec_l10Byte.l1 x6 kf x38 x39).bind G7 = some r ∧ l' = [.agg #[.int .i64 p0_0, .slice A0_1p p0_1.length c0_1p, .slice A0_2p p0_2.length c0_2p, .int .i64 p0_3], .int .i64 p1, .pointer (some ⟨b2, 0, none⟩), undef, .int .i64 0, .int .i64 x38, undef, getL l' 7, .pointer (some ⟨b2, 0 + 3, none⟩), .int .i64 p0_3, .pointer (some ⟨b2, 0 + 2, none⟩), .slice A0_2p p0_2.length c0_2p, .int .i64 p1, .slice (cutA A0_2p c0_2p (Int.toNat 0) (Kd.sz KI)) x6.length (c0_2p - Int.toNat 0), .int .i64 (x6.length : Int), .int .i64 x39, getL l' 16, getL l' 17, getL l' 18, getL l' 19, getL l' 20, getL l' 21, getL l' 22, undef] ∧ Hp sb s F0 s' []) ((((x6.length : Int)) - (0)).toNat + 2) ⟨p0_3, 0, H, rfl, hH.sel [] (by decide)⟩ ?_
    rintro kf l' s48 ⟨x38, x39, H, hl, hH⟩ K48 hK48
    generalize getL l' 7 = j7, getL l' 16 = j16, getL l' 17 = j17, getL l' 18 = j18, getL l' 19 = j19, getL l' 20 = j20, getL l' 21 = j21, getL l' 22 = j22 at hl
    subst hl
    cases kf with
    | zero => simp [spec_l10Byte.l1] at H
    | succ kf =>
      rw [spec_l10Byte.l1] at H
      refine HT_seq_k ?_
      intro K49 hK49
      refine HT_region ?_
      refine HL_cons rfl ?_
      refine o_bin rfl rfl rfl ?_
      try dsimp only [putL, setL, evL, getL]
      refine HL_nil ?_
      refine hK49 _ _ ?_
      refine HT_seq_k ?_
      intro K50 hK50
      rcases Bool.eq_false_or_eq_true (decide (x39 < (x6.length : Int))) with hb51 | hb51
      · replace H := iteT hb51 H
        refine HT_true (congrArg Value.bool hb51) ?_
        refine HT_skip ?_
        refine hK50 _ _ ?_
        refine HT_seq_k ?_
        intro K52 hK52
        refine HT_block ?_
        refine HT_seq_k ?_
        intro K53 hK53
        refine HT_region ?_
        replace H := headE H
        obtain ⟨u54, hu54, H⟩ := H
        obtain ⟨b54, o54, cs54, hr54, hh54, hel54⟩ := Rd.elb D6 hu54
        obtain rfl := hr54
        refine HL_cons rfl ?_
        refine hel54 s48 rfl rfl Try.underlying24 tI3 ?_
        try dsimp only [putL, setL, evL, getL]
        refine HL_cons rfl ?_
        refine o_load' rfl Try.underlying3 rfl ((hh54 hH.bs.mono) 0 _ rfl) ?_
        try dsimp only [putL, setL, evL, getL]
        refine HL_cons rfl ?_
        refine o_assign ?_
        try dsimp only [putL, setL, evL, getL]
        refine HL_nil ?_
        refine hK53 _ _ ?_
        refine HT_region ?_
        refine HL_cons rfl ?_
        refine o_move ?_
        try dsimp only [putL, setL, evL, getL]
        refine HL_cons rfl ?_
        refine o_move ?_
        try dsimp only [putL, setL, evL, getL]
        refine HL_cons rfl ?_
        refine o_bin rfl rfl rfl ?_
        try dsimp only [putL, setL, evL, getL]
        refine HL_cons rfl ?_
        refine o_assign ?_
        try dsimp only [putL, setL, evL, getL]
        refine HL_nil ?_
        refine hK52 _ _ ?_
        refine HT_region ?_
        refine HL_cons rfl ?_
        refine o_bin rfl rfl rfl ?_
        try dsimp only [putL, setL, evL, getL]
        refine HL_cons rfl ?_
        refine o_move ?_
        try dsimp only [putL, setL, evL, getL]
        refine HL_nil ?_
        exact hK48 _ _ ⟨kf, Nat.lt_succ_self kf, IntKind.i64.wrap (x38 + u54), IntKind.i64.wrap (x39 + 1), H, rfl, hH⟩
      · replace H := iteF hb51 H
        refine HT_false (congrArg Value.bool hb51) ?_
        refine HT_exit ?_
        exact hK7 _ _ ⟨x38, H, rfl, hH⟩
  · rintro l' s55 ⟨x31, H, hl, hH⟩
    generalize getL l' 7 = j7, getL l' 15 = j15, getL l' 16 = j16, getL l' 17 = j17, getL l' 18 = j18, getL l' 19 = j19, getL l' 20 = j20, getL l' 21 = j21, getL l' 22 = j22 at hl
    subst hl
    replace H := hG7 _ H
    try dsimp only at H
    refine hK4 _ _ ?_
    refine HT_seq_k ?_
    intro K56 hK56
    refine HT_region ?_
    refine HL_cons rfl ?_
    refine o_move ?_
    try dsimp only [putL, setL, evL, getL]
    refine HL_cons rfl ?_
    refine o_assign ?_
    try dsimp only [putL, setL, evL, getL]
    refine HL_nil ?_
    refine hK56 _ _ ?_
    refine HT_ret ?_
    exact hQr _ _ [.int .i64 x31] ⟨rfl, trivial⟩ (retH (fun r => spec_l10Byte.post sb s F0 r _ _) (show some _ = some r from H) ⟨rfl, hH⟩)
def spec_ByteOf.f (p0_0 : Int) (p0_1 : List (Int)) (p0_2 : List (Int)) (p0_3 : Int) (p1 : Int) : Option (Int × Bool) := ((spec_GoodBuf.f p0_0 p0_1 p0_2 p0_3).bind fun u21 => if (!u21) = true then (some true) else ((spec_l1In.f p1 0 (p0_1.length : Int)).bind fun u23 => some (!u23))).bind fun (o : Bool) => match o with | x20 => (if x20 = true then (some (0, false)) else ((spec_l10Byte.f p0_0 p0_1 p0_2 p0_3 p1).bind fun u28 => some (u28, true)))
def spec_ByteOf.post (sb s : St) (F0 : Fp) (r : Int × Bool) : Value → St → Prop := fun v s' => v = .tuple #[.int .i64 r.1, .bool r.2] ∧ Hp sb s F0 s' []
set_option maxRecDepth 100000 in
set_option maxHeartbeats 4000000 in
theorem spec_ByteOf.ok (sb s : St) (F0 : Fp) (p0_0 : Int) (A0_1p : Option Addr) (c0_1p : Nat) (p0_1 : List (Int)) (A0_2p : Option Addr) (c0_2p : Nat) (p0_2 : List (Int)) (p0_3 : Int) (p1 : Int) (HRp0_1 : Rd KI sb A0_1p c0_1p p0_1) (HRp0_2 : Rd KI sb A0_2p c0_2p p0_2) (hH : Hp sb s F0 s []) (r : Int × Bool) (H : spec_ByteOf.f p0_0 p0_1 p0_2 p0_3 p1 = some r) : GCall Try.prog 36 #[.agg #[.int .i64 p0_0, .slice A0_1p p0_1.length c0_1p, .slice A0_2p p0_2.length c0_2p, .int .i64 p0_3], .int .i64 p1] s (spec_ByteOf.post sb s F0 r) := by
  refine GCall_ofk [.tmp 4, .tmp 5] [.agg #[.int .i64 p0_0, .slice A0_1p p0_1.length c0_1p, .slice A0_2p p0_2.length c0_2p, .int .i64 p0_3], .int .i64 p1, undef, undef, undef, undef, undef, undef, undef, undef, undef, undef, undef, undef, undef, undef, undef, undef, undef, undef] Try.func36 rfl rfl rfl ?_
  intro w Q hQr hQn hQp
  replace H := topE H
  unfold spec_ByteOf.f at H
  refine HT_seq_k ?_
  intro K1 hK1
  refine HT_region ?_
  refine HL_cons rfl ?_
  refine o_boxH hH rfl ?_
  intro b2 s2 hH' hG
  replace hH : Hp sb s F0 s2 [Ck.ov b2 [.int .i64 p0_0, .slice A0_1p p0_1.length c0_1p, .slice A0_2p p0_2.length c0_2p, .int .i64 p0_3] 37] := hH'
  clear hH' hG
  try dsimp only [putL, setL, evL, getL]
  refine HL_cons rfl ?_
  refine o_assign ?_
  try dsimp only [putL, setL, evL, getL]
  refine HL_cons rfl ?_
  refine o_assign ?_
  try dsimp only [putL, setL, evL, getL]
  refine HL_nil ?_
  refine hK1 _ _ ?_
  refine HT_seq_k ?_
  intro K15 hK15
  refine joinH H fun G16 hG16 H => ?_
  refine HT_joinK (fun l' s' => ∃ (x20 : Bool), G16 x20 = some r ∧ l' = [.agg #[.int .i64 p0_0, .slice A0_1p p0_1.length c0_1p, .slice A0_2p p0_2.length c0_2p, .int .i64 p0_3], .int .i64 p1, .pointer (some ⟨b2, 0, none⟩), undef, .int .i64 0, .bool false, getL l' 6, getL l' 7, getL l' 8, getL l' 9, getL l' 10, getL l' 11, getL l' 12, getL l' 13, getL l' 14, getL l' 15, .bool x20, undef, undef, undef] ∧ Hp sb s F0 s' [Ck.ov b2 [.int .i64 p0_0, .slice A0_1p p0_1.length c0_1p, .slice A0_2p p0_2.length c0_2p, .int .i64 p0_3] 37]) ?_ ?_
  · intro K16 hK16
    refine HT_region ?_
    refine HL_cons rfl ?_
    refine o_loads' [.int .i64 p0_0, .slice A0_1p p0_1.length c0_1p, .slice A0_2p p0_2.length c0_2p, .int .i64 p0_3] rfl Try.underlying37 rfl tI37 rfl (hH.partv 0 rfl (0) [.int .i64 p0_0, .slice A0_1p p0_1.length c0_1p, .slice A0_2p p0_2.length c0_2p, .int .i64 p0_3] rfl) ?_
    try dsimp only [putL, setL, evL, getL]
    replace H := headE H
    obtain ⟨u21, hu21, H⟩ := H
    refine HL_cons rfl ?_
    refine o_call (args := #[.agg #[.int .i64 p0_0, .slice A0_1p p0_1.length c0_1p, .slice A0_2p p0_2.length c0_2p, .int .i64 p0_3]]) Try.func29 rfl rfl rfl (spec_GoodBuf.ok sb s2 no p0_0 A0_1p c0_1p p0_1 A0_2p c0_2p p0_2 p0_3 HRp0_1 HRp0_2 (Hp.own hH.bs) _ hu21) ?_
    rintro _ s21 ⟨rfl, hD⟩
    replace hH := hH.back0 hD (Up.refl _ _ _)
    clear hD
    dsimp only [addC, setC, rmC, selC, getC] at hH
    try dsimp only [putL, setL, evL, getL]
    refine HL_cons rfl ?_
    refine o_not rfl ?_
    try dsimp only [putL, setL, evL, getL]
    refine HL_cons rfl ?_
    refine o_move ?_
    try dsimp only [putL, setL, evL, getL]
    rcases Bool.eq_false_or_eq_true (!u21) with hb22 | hb22
    · replace H := iteT hb22 H
      refine HL_skip ?_ ?_
      · exact wantF (j := 3) (b := false) (t := 9) (c := !u21) rfl rfl rfl rfl hb22
      try dsimp only [putL, setL, evL, getL]
      refine HL_skip ?_ ?_
      · exact wantF (j := 3) (b := false) (t := 9) (c := !u21) rfl rfl rfl rfl hb22
      try dsimp only [putL, setL, evL, getL]
      refine HL_skip ?_ ?_
      · exact wantF (j := 3) (b := false) (t := 9) (c := !u21) rfl rfl rfl rfl hb22
      try dsimp only [putL, setL, evL, getL]
      refine HL_skip ?_ ?_
      · exact wantF (j := 3) (b := false) (t := 9) (c := !u21) rfl rfl rfl rfl hb22
      try dsimp only [putL, setL, evL, getL]
      refine HL_skip ?_ ?_
      · exact wantF (j := 3) (b := false) (t := 9) (c := !u21) rfl rfl rfl rfl hb22
      try dsimp only [putL, setL, evL, getL]
      refine HL_skip ?_ ?_
      · exact wantF (j := 3) (b := false) (t := 9) (c := !u21) rfl rfl rfl rfl hb22
      try dsimp only [putL, setL, evL, getL]
      refine HL_cons rfl ?_
      refine o_pickT rfl hb22 ?_
      try dsimp only [putL, setL, evL, getL]
      refine HL_nil ?_
      exact hK16 _ _ ⟨true, H, rfl, hH⟩
    · replace H := iteF hb22 H
      refine HL_want ?_ ?_
      · exact wantT (j := 3) (b := false) (t := 9) (c := !u21) rfl rfl rfl rfl hb22
      refine o_move ?_
      try dsimp only [putL, setL, evL, getL]
      refine HL_want ?_ ?_
      · exact wantT (j := 3) (b := false) (t := 9) (c := !u21) rfl rfl rfl rfl hb22
      refine o_faddr' (ft := 24) (off := 1) rfl Try.underlying37 rfl tI24 (by decide) ?_
      try dsimp only [putL, setL, evL, getL]
      refine HL_want ?_ ?_
      · exact wantT (j := 3) (b := false) (t := 9) (c := !u21) rfl rfl rfl rfl hb22
      refine o_load' rfl Try.underlying24 rfl (hH.hasv 0 rfl rfl) ?_
      try dsimp only [putL, setL, evL, getL]
      refine HL_want ?_ ?_
      · exact wantT (j := 3) (b := false) (t := 9) (c := !u21) rfl rfl rfl rfl hb22
      refine o_len rfl Try.underlying24 ?_
      try dsimp only [putL, setL, evL, getL]
      replace H := headE H
      obtain ⟨u23, hu23, H⟩ := H
      refine HL_want ?_ ?_
      · exact wantT (j := 3) (b := false) (t := 9) (c := !u21) rfl rfl rfl rfl hb22
      refine o_call (args := #[.int .i64 p1, .int .i64 0, .int .i64 (p0_1.length : Int)]) Try.func108 rfl rfl rfl (spec_l1In.ok sb s21 no p1 0 (p0_1.length : Int) (Hp.own hH.bs) _ hu23) ?_
      rintro _ s23 ⟨rfl, hD⟩
      replace hH := hH.back0 hD (Up.refl _ _ _)
      clear hD
      dsimp only [addC, setC, rmC, selC, getC] at hH
      try dsimp only [putL, setL, evL, getL]
      refine HL_want ?_ ?_
      · exact wantT (j := 3) (b := false) (t := 9) (c := !u21) rfl rfl rfl rfl hb22
      refine o_not rfl ?_
      try dsimp only [putL, setL, evL, getL]
      refine HL_cons rfl ?_
      refine o_pickF rfl hb22 ?_
      try dsimp only [putL, setL, evL, getL]
      refine HL_nil ?_
      exact hK16 _ _ ⟨!u23, H, rfl, hH⟩
  · rintro l' s24 ⟨x20, H, hl, hH⟩
    generalize getL l' 6 = j6, getL l' 7 = j7, getL l' 8 = j8, getL l' 9 = j9, getL l' 10 = j10, getL l' 11 = j11, getL l' 12 = j12, getL l' 13 = j13, getL l' 14 = j14, getL l' 15 = j15 at hl
    subst hl
    replace H := hG16 _ H
    try dsimp only at H
    rcases Bool.eq_false_or_eq_true x20 with hb25 | hb25
    · replace H := iteT hb25 H
      refine HT_true (congrArg Value.bool hb25) ?_
      refine HT_seq_k ?_
      intro K26 hK26
      refine HT_region ?_
      refine HL_cons rfl ?_
      refine o_assign ?_
      try dsimp only [putL, setL, evL, getL]
      refine HL_cons rfl ?_
      refine o_assign ?_
      try dsimp only [putL, setL, evL, getL]
      refine HL_nil ?_
      refine hK26 _ _ ?_
      refine HT_ret ?_
      exact hQr _ _ [.int .i64 0, .bool false] ⟨rfl, rfl, trivial⟩ (retH (fun r => spec_ByteOf.post sb s F0 r _ _) (show some _ = some r from H) ⟨rfl, hH.sel [] (by decide)⟩)
    · replace H := iteF hb25 H
      refine HT_false (congrArg Value.bool hb25) ?_
      refine HT_skip ?_
      refine hK15 _ _ ?_
      refine HT_seq_k ?_
      intro K27 hK27
      refine HT_region ?_
      refine HL_cons rfl ?_
      refine o_loads' [.int .i64 p0_0, .slice A0_1p p0_1.length c0_1p, .slice A0_2p p0_2.length c0_2p, .int .i64 p0_3] rfl Try.underlying37 rfl tI37 rfl (hH.partv 0 rfl (0) [.int .i64 p0_0, .slice A0_1p p0_1.length c0_1p, .slice A0_2p p0_2.length c0_2p, .int .i64 p0_3] rfl) ?_
      try dsimp only [putL, setL, evL, getL]
      refine HL_cons rfl ?_
      refine o_move ?_
      try dsimp only [putL, setL, evL, getL]
      replace H := headE H
      obtain ⟨u28, hu28, H⟩ := H
      refine HL_cons rfl ?_
      refine o_call (args := #[.agg #[.int .i64 p0_0, .slice A0_1p p0_1.length c0_1p, .slice A0_2p p0_2.length c0_2p, .int .i64 p0_3], .int .i64 p1]) Try.func126 rfl rfl rfl (spec_l10Byte.ok sb s24 no p0_0 A0_1p c0_1p p0_1 A0_2p c0_2p p0_2 p0_3 p1 HRp0_1 HRp0_2 (Hp.own hH.bs) _ hu28) ?_
      rintro _ s28 ⟨rfl, hD⟩
      replace hH := hH.back0 hD (Up.refl _ _ _)
      clear hD
      dsimp only [addC, setC, rmC, selC, getC] at hH
      try dsimp only [putL, setL, evL, getL]
      refine HL_cons rfl ?_
      refine o_assign ?_
      try dsimp only [putL, setL, evL, getL]
      refine HL_cons rfl ?_
      refine o_assign ?_
      try dsimp only [putL, setL, evL, getL]
      refine HL_nil ?_
      refine hK27 _ _ ?_
      refine HT_ret ?_
      exact hQr _ _ [.int .i64 u28, .bool true] ⟨rfl, rfl, trivial⟩ (retH (fun r => spec_ByteOf.post sb s F0 r _ _) (show some _ = some r from H) ⟨rfl, hH.sel [] (by decide)⟩)
end Go.Proofs.Ytkieinlcpkpcjaa
