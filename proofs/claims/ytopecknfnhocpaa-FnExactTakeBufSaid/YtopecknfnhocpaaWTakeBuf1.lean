/- The functions that the law reaches, as plain functions, each with its contract: printed by a program of the prover's. No conditions: lemmas. -/
import Derived.Test.YtopecknfnhocpaaWTakeBuf0
set_option linter.unusedVariables false
set_option linter.unusedSimpArgs false
namespace Go.Proofs.Ytopecknfnhocpaa
open Go Go.Proofs.GL
def impl_Buf_bytes.l1 (x6 : List (Int)) : Nat → Int → Int → Option Int
  | 0, _, _ => none
  | kf + 1, x38, x39 => if (decide (x39 < (x6.length : Int))) = true then ((rd? x6 x39).bind fun u54 => impl_Buf_bytes.l1 x6 kf (IntKind.i64.wrap (x38 + u54)) (IntKind.i64.wrap (x39 + 1))) else (some x38)
def impl_Buf_bytes.f (p0_0 : Int) (p0_1 : List (Int)) (p0_2 : List (Int)) (p0_3 : Int) (p1 : Int) : Option Int := (cut? p0_2 0 p1).bind fun x6 => (impl_Buf_bytes.l1 x6 ((((x6.length : Int)) - (0)).toNat + 2) p0_3 0).bind fun (o : Int) => match o with | x31 => (some x31)
def impl_Buf_bytes.post (sb s : St) (F0 : Fp) (r : Int) : Value → St → Prop := fun v s' => v = .int .i64 r ∧ Hp sb s F0 s' []
set_option maxRecDepth 100000 in
set_option maxHeartbeats 4000000 in
theorem impl_Buf_bytes.ok (sb s : St) (F0 : Fp) (p0_0 : Int) (A0_1p : Option Addr) (c0_1p : Nat) (p0_1 : List (Int)) (A0_2p : Option Addr) (c0_2p : Nat) (p0_2 : List (Int)) (p0_3 : Int) (p1 : Int) (HRp0_1 : Rd KI sb A0_1p c0_1p p0_1) (HRp0_2 : Rd KI sb A0_2p c0_2p p0_2) (hH : Hp sb s F0 s []) (r : Int) (H : impl_Buf_bytes.f p0_0 p0_1 p0_2 p0_3 p1 = some r) : GCall Try.prog 133 #[.agg #[.int .i64 p0_0, .slice A0_1p p0_1.length c0_1p, .slice A0_2p p0_2.length c0_2p, .int .i64 p0_3], .int .i64 p1] s (impl_Buf_bytes.post sb s F0 r) := by
  refine GCall_ofk [.tmp 4] [.agg #[.int .i64 p0_0, .slice A0_1p p0_1.length c0_1p, .slice A0_2p p0_2.length c0_2p, .int .i64 p0_3], .int .i64 p1, undef, undef, undef, undef, undef, undef, undef, undef, undef, undef, undef, undef, undef, undef, undef, undef, undef, undef, undef, undef, undef, undef] Try.func133 rfl rfl rfl ?_
  intro w Q hQr hQn hQp
  replace H := topE H
  unfold impl_Buf_bytes.f at H
  refine HT_seq_k ?_
  intro K1 hK1
  refine HT_region ?_
  refine HL_cons rfl ?_
  refine o_boxH hH rfl ?_
  intro b2 s2 hH' hG
  replace hH : Hp sb s F0 s2 [Ck.ov b2 [.int .i64 p0_0, .slice A0_1p p0_1.length c0_1p, .slice A0_2p p0_2.length c0_2p, .int .i64 p0_3] 31] := hH'
  clear hH' hG
  try dsimp only [putL, setL, evL, getL]
  refine HL_cons rfl ?_
  refine o_assign ?_
  try dsimp only [putL, setL, evL, getL]
  refine HL_nil ?_
  refine hK1 _ _ ?_
  refine HT_seq_k ?_
  intro K3 hK3
  refine HT_region ?_
  refine HL_cons rfl ?_
  refine o_faddr' (ft := 3) (off := 3) rfl Try.underlying31 rfl tI3 (by decide) ?_
  try dsimp only [putL, setL, evL, getL]
  refine HL_cons rfl ?_
  refine o_load' rfl Try.underlying3 rfl (hH.hasv 0 rfl rfl) ?_
  try dsimp only [putL, setL, evL, getL]
  refine HL_cons rfl ?_
  refine o_assign ?_
  try dsimp only [putL, setL, evL, getL]
  refine HL_nil ?_
  refine hK3 _ _ ?_
  refine HT_seq_k ?_
  intro K4 hK4
  refine HT_seq_k ?_
  intro K5 hK5
  refine HT_region ?_
  refine HL_cons rfl ?_
  refine o_faddr' (ft := 22) (off := 2) rfl Try.underlying31 rfl tI22 (by decide) ?_
  try dsimp only [putL, setL, evL, getL]
  refine HL_cons rfl ?_
  refine o_load' rfl Try.underlying22 rfl (hH.hasv 0 rfl rfl) ?_
  try dsimp only [putL, setL, evL, getL]
  refine HL_cons rfl ?_
  refine o_move ?_
  try dsimp only [putL, setL, evL, getL]
  obtain ⟨x6, hx6, H⟩ := headE H
  refine HL_cons rfl ?_
  refine o_cutA (xs := p0_2) (kl := .i64) (kh := .i64) (L := 0) (H := p1) rfl rfl rfl Try.underlying22 tI3 HRp0_2.1 hx6 ?_
  have D6 := HRp0_2.cut hx6
  try dsimp only [putL, setL, evL, getL]
  refine HL_cons rfl ?_
  refine o_len rfl Try.underlying22 ?_
  try dsimp only [putL, setL, evL, getL]
  refine HL_cons rfl ?_
  refine o_move ?_
  try dsimp only [putL, setL, evL, getL]
  refine HL_nil ?_
  refine hK5 _ _ ?_
  refine joinH H fun G7 hG7 H => ?_
  refine HT_toK (fun l' s' => ∃ (x31 : Int), G7 x31 = some r ∧ l' = [.agg #[.int .i64 p0_0, .slice A0_1p p0_1.length c0_1p, .slice A0_2p p0_2.length c0_2p, .int .i64 p0_3], .int .i64 p1, .pointer (some ⟨b2, 0, none⟩), undef, .int .i64 0, .int .i64 x31, undef, getL l' 7, .pointer (some ⟨b2, 0 + 3, none⟩), .int .i64 p0_3, .pointer (some ⟨b2, 0 + 2, none⟩), .slice A0_2p p0_2.length c0_2p, .int .i64 p1, .slice (cutA A0_2p c0_2p (Int.toNat 0) (Kd.sz KI)) x6.length (c0_2p - Int.toNat 0), .int .i64 (x6.length : Int), getL l' 15, getL l' 16, getL l' 17, getL l' 18, getL l' 19, getL l' 20, getL l' 21, getL l' 22, undef] ∧ Hp sb s F0 s' []) ?_ ?_
  · intro K7 hK7
    refine HT_block ?_
    refine HT_loopK (fun kf l' s' => ∃ (x38 : Int) (x39 : Int), (impl_Buf_bytes.l1 x6 kf x38 x39).bind G7 = some r ∧ l' = [.agg #[.int .i64 p0_0, .slice A0_1p p0_1.length c0_1p, .slice A0_2p p0_2.length c0_2p, .int .i64 p0_3], .int .i64 p1, .pointer (some ⟨b2, 0, none⟩), undef, .int .i64 0, .int .i64 x38, undef, getL l' 7, .pointer (some ⟨b2, 0 + 3, none⟩), .int .i64 p0_3, .pointer (some ⟨b2, 0 + 2, none⟩), .slice A0_2p p0_2.length c0_2p, .int .i64 p1, .slice (cutA A0_2p c0_2p (Int.toNat 0) (Kd.sz KI)) x6.length (c0_2p - Int.toNat 0), .int .i64 (x6.length : Int), .int .i64 x39, getL l' 16, getL l' 17, getL l' 18, getL l' 19, getL l' 20, getL l' 21, getL l' 22, undef] ∧ Hp sb s F0 s' []) ((((x6.length : Int)) - (0)).toNat + 2) ⟨p0_3, 0, H, rfl, hH.sel [] (by decide)⟩ ?_
    rintro kf l' s48 ⟨x38, x39, H, hl, hH⟩ K48 hK48
    generalize getL l' 7 = j7, getL l' 16 = j16, getL l' 17 = j17, getL l' 18 = j18, getL l' 19 = j19, getL l' 20 = j20, getL l' 21 = j21, getL l' 22 = j22 at hl
    subst hl
    cases kf with
    | zero => simp [impl_Buf_bytes.l1] at H
    | succ kf =>
      rw [impl_Buf_bytes.l1] at H
      refine HT_seq_k ?_
      intro K49 hK49
      refine HT_region ?_
      refine HL_cons rfl ?_
      refine o_bin rfl rfl rfl ?_
      try dsimp only [putL, setL, evL, getL]
      refine HL_nil ?_
      refine hK49 _ _ ?_
      refine HT_seq_k ?_
      intro K50 hK50
      rcases Bool.eq_false_or_eq_true (decide (x39 < (x6.length : Int))) with hb51 | hb51
      · replace H := iteT hb51 H
        refine HT_true (congrArg Value.bool hb51) ?_
        refine HT_skip ?_
        refine hK50 _ _ ?_
        refine HT_seq_k ?_
        intro K52 hK52
        refine HT_block ?_
        refine HT_seq_k ?_
        intro K53 hK53
        refine HT_region ?_
        obtain ⟨u54, hu54, H⟩ := headE H
        obtain ⟨b54, o54, cs54, hr54, hh54, hel54⟩ := Rd.elb D6 hu54
        obtain rfl := hr54
        refine HL_cons rfl ?_
        refine hel54 s48 rfl rfl Try.underlying22 tI3 ?_
        try dsimp only [putL, setL, evL, getL]
        refine HL_cons rfl ?_
        refine o_load' rfl Try.underlying3 rfl ((hh54 hH.bs.mono) 0 _ rfl) ?_
        try dsimp only [putL, setL, evL, getL]
        refine HL_cons rfl ?_
        refine o_assign ?_
        try dsimp only [putL, setL, evL, getL]
        refine HL_nil ?_
        refine hK53 _ _ ?_
        refine HT_region ?_
        refine HL_cons rfl ?_
        refine o_move ?_
        try dsimp only [putL, setL, evL, getL]
        refine HL_cons rfl ?_
        refine o_move ?_
        try dsimp only [putL, setL, evL, getL]
        refine HL_cons rfl ?_
        refine o_bin rfl rfl rfl ?_
        try dsimp only [putL, setL, evL, getL]
        refine HL_cons rfl ?_
        refine o_assign ?_
        try dsimp only [putL, setL, evL, getL]
        refine HL_nil ?_
        refine hK52 _ _ ?_
        refine HT_region ?_
        refine HL_cons rfl ?_
        refine o_bin rfl rfl rfl ?_
        try dsimp only [putL, setL, evL, getL]
        refine HL_cons rfl ?_
        refine o_move ?_
        try dsimp only [putL, setL, evL, getL]
        refine HL_nil ?_
        exact hK48 _ _ ⟨kf, Nat.lt_succ_self kf, IntKind.i64.wrap (x38 + u54), IntKind.i64.wrap (x39 + 1), H, rfl, hH⟩
      · replace H := iteF hb51 H
        refine HT_false (congrArg Value.bool hb51) ?_
        refine HT_exit ?_
        exact hK7 _ _ ⟨x38, H, rfl, hH⟩
  · rintro l' s55 ⟨x31, H, hl, hH⟩
    generalize getL l' 7 = j7, getL l' 15 = j15, getL l' 16 = j16, getL l' 17 = j17, getL l' 18 = j18, getL l' 19 = j19, getL l' 20 = j20, getL l' 21 = j21, getL l' 22 = j22 at hl
    subst hl
    replace H := hG7 _ H
    try dsimp only at H
    refine hK4 _ _ ?_
    refine HT_seq_k ?_
    intro K56 hK56
    refine HT_region ?_
    refine HL_cons rfl ?_
    refine o_move ?_
    try dsimp only [putL, setL, evL, getL]
    refine HL_cons rfl ?_
    refine o_assign ?_
    try dsimp only [putL, setL, evL, getL]
    refine HL_nil ?_
    refine hK56 _ _ ?_
    refine HT_ret ?_
    obtain rfl := Option.some.inj (show some _ = some r from H)
    exact hQr _ _ [.int .i64 x31] ⟨rfl, trivial⟩ ⟨rfl, hH⟩
def impl_Buf_take.f (p0_0 : Int) (p0_1 : List (Int)) (p0_2 : List (Int)) (p0_3 : Int) (p1 : Int) : Option ((List (Int)) × (List (Int)) × (List (Int)) × Int) := (cut? p0_1 0 p1).bind fun x3 => (slices_Clone_int_int.f x3).bind fun u4 => (impl_Buf_bytes.f p0_0 p0_1 p0_2 p0_3 p1).bind fun u7 => (cut? p0_1 p1 (p0_1.length : Int)).bind fun x10 => (cut? p0_2 p1 (p0_2.length : Int)).bind fun x11 => (slices_Clone_int_int.f x10).bind fun u12 => (slices_Clone_int_int.f x11).bind fun u14 => some (u4, u12, u14, u7)
def impl_Buf_take.post (sb s : St) (F0 : Fp) (bp0 : Nat) (p0_0 : Int) (r : (List (Int)) × (List (Int)) × (List (Int)) × Int) : Value → St → Prop := fun v s' => ∃ (A0 : Option Addr) (c0 : Nat) (A1 : Option Addr) (c1 : Nat) (A2 : Option Addr) (c2 : Nat), v = .slice A0 r.1.length c0 ∧ Hp sb s F0 s' [Ck.ol OI 3 A0 c0 r.1, Ck.ol OI 3 A1 c1 r.2.1, Ck.ol OI 3 A2 c2 r.2.2.1, Ck.ov bp0 [.int .i64 p0_0, .slice A1 r.2.1.length c1, .slice A2 r.2.2.1.length c2, .int .i64 r.2.2.2] 31]
set_option maxRecDepth 100000 in
set_option maxHeartbeats 4000000 in
theorem impl_Buf_take.ok (sb s : St) (F0 : Fp) (bp0 : Nat) (p0_0 : Int) (A0_1p : Option Addr) (c0_1p : Nat) (p0_1 : List (Int)) (A0_2p : Option Addr) (c0_2p : Nat) (p0_2 : List (Int)) (p0_3 : Int) (p1 : Int) (HRp0_1 : Rd KI sb A0_1p c0_1p p0_1) (HRp0_2 : Rd KI sb A0_2p c0_2p p0_2) (hH : Hp sb s F0 s [Ck.ov bp0 [.int .i64 p0_0, .slice A0_1p p0_1.length c0_1p, .slice A0_2p p0_2.length c0_2p, .int .i64 p0_3] 31]) (r : (List (Int)) × (List (Int)) × (List (Int)) × Int) (H : impl_Buf_take.f p0_0 p0_1 p0_2 p0_3 p1 = some r) : GCall Try.prog 88 #[.pointer (some ⟨bp0, 0, none⟩), .int .i64 p1] s (impl_Buf_take.post sb s F0 bp0 p0_0 r) := by
  refine GCall_ofk [.tmp 4] [.pointer (some ⟨bp0, 0, none⟩), .int .i64 p1, undef, undef, undef, undef, undef, undef, undef, undef, undef, undef, undef, undef, undef, undef, undef, undef, undef, undef, undef, undef, undef, undef, undef, undef, undef, undef, undef, undef, undef, undef, undef, undef, undef, undef, undef, undef, undef, undef, undef, undef] Try.func88 rfl rfl rfl ?_
  intro w Q hQr hQn hQp
  replace H := topE H
  unfold impl_Buf_take.f at H
  refine HT_seq_k ?_
  intro K1 hK1
  refine HT_region ?_
  refine HL_cons rfl ?_
  refine o_assign ?_
  try dsimp only [putL, setL, evL, getL]
  refine HL_nil ?_
  refine hK1 _ _ ?_
  refine HT_seq_k ?_
  intro K2 hK2
  refine HT_region ?_
  refine HL_cons rfl ?_
  refine o_move ?_
  try dsimp only [putL, setL, evL, getL]
  refine HL_cons rfl ?_
  refine o_nilck rfl ?_
  try dsimp only [putL, setL, evL, getL]
  refine HL_cons rfl ?_
  refine o_faddr' (ft := 22) (off := 1) rfl Try.underlying31 rfl tI22 (by decide) ?_
  try dsimp only [putL, setL, evL, getL]
  refine HL_cons rfl ?_
  refine o_load' rfl Try.underlying22 rfl (hH.hasv 0 rfl rfl) ?_
  try dsimp only [putL, setL, evL, getL]
  refine HL_cons rfl ?_
  refine o_move ?_
  try dsimp only [putL, setL, evL, getL]
  obtain ⟨x3, hx3, H⟩ := headE H
  refine HL_cons rfl ?_
  refine o_cutA (xs := p0_1) (kl := .i64) (kh := .i64) (L := 0) (H := p1) rfl rfl rfl Try.underlying22 tI3 HRp0_1.1 hx3 ?_
  have D3 := HRp0_1.cut hx3
  try dsimp only [putL, setL, evL, getL]
  obtain ⟨u4, hu4, H⟩ := headE H
  refine HL_cons rfl ?_
  refine o_call (args := #[.slice (cutA A0_1p c0_1p (Int.toNat 0) (Kd.sz KI)) x3.length (c0_1p - Int.toNat 0)]) Try.func94 rfl rfl rfl (slices_Clone_int_int.ok sb s no (cutA A0_1p c0_1p (Int.toNat 0) (Kd.sz KI)) (c0_1p - Int.toNat 0) x3 D3 (Hp.own hH.bs) _ hu4) ?_
  rintro _ s4 ⟨A5, c5, rfl, hD⟩
  replace hH := hH.back0 hD (Up.refl _ _ _)
  clear hD
  dsimp only [addC, setC, rmC, selC, getC] at hH
  try dsimp only [putL, setL, evL, getL]
  refine HL_cons rfl ?_
  refine o_assign ?_
  try dsimp only [putL, setL, evL, getL]
  refine HL_nil ?_
  refine hK2 _ _ ?_
  refine HT_seq_k ?_
  intro K6 hK6
  refine HT_region ?_
  refine HL_cons rfl ?_
  refine o_move ?_
  try dsimp only [putL, setL, evL, getL]
  refine HL_cons rfl ?_
  refine o_move ?_
  try dsimp only [putL, setL, evL, getL]
  refine HL_cons rfl ?_
  refine o_nilck rfl ?_
  try dsimp only [putL, setL, evL, getL]
  refine HL_cons rfl ?_
  refine o_loads' [.int .i64 p0_0, .slice A0_1p p0_1.length c0_1p, .slice A0_2p p0_2.length c0_2p, .int .i64 p0_3] rfl Try.underlying31 rfl tI31 rfl (hH.partv 0 rfl (0) [.int .i64 p0_0, .slice A0_1p p0_1.length c0_1p, .slice A0_2p p0_2.length c0_2p, .int .i64 p0_3] rfl) ?_
  try dsimp only [putL, setL, evL, getL]
  refine HL_cons rfl ?_
  refine o_move ?_
  try dsimp only [putL, setL, evL, getL]
  obtain ⟨u7, hu7, H⟩ := headE H
  refine HL_cons rfl ?_
  refine o_call (args := #[.agg #[.int .i64 p0_0, .slice A0_1p p0_1.length c0_1p, .slice A0_2p p0_2.length c0_2p, .int .i64 p0_3], .int .i64 p1]) Try.func133 rfl rfl rfl (impl_Buf_bytes.ok sb s4 no p0_0 A0_1p c0_1p p0_1 A0_2p c0_2p p0_2 p0_3 p1 HRp0_1 HRp0_2 (Hp.own hH.bs) _ hu7) ?_
  rintro _ s7 ⟨rfl, hD⟩
  replace hH := hH.back0 hD (Up.refl _ _ _)
  clear hD
  dsimp only [addC, setC, rmC, selC, getC] at hH
  try dsimp only [putL, setL, evL, getL]
  refine HL_cons rfl ?_
  refine o_nilck rfl ?_
  try dsimp only [putL, setL, evL, getL]
  refine HL_cons rfl ?_
  refine o_faddr' (ft := 3) (off := 3) rfl Try.underlying31 rfl tI3 (by decide) ?_
  try dsimp only [putL, setL, evL, getL]
  refine HL_cons rfl ?_
  refine o_stvH (vs := [.int .i64 u7]) (us' := [.int .i64 p0_0, .slice A0_1p p0_1.length c0_1p, .slice A0_2p p0_2.length c0_2p, .int .i64 u7]) hH 0 rfl rfl rfl rfl rfl tI3 rfl (List.cons_ne_nil _ _) rfl rfl rfl ?_
  intro s8 hH'
  replace hH : Hp sb s F0 s8 [Ck.ov bp0 [.int .i64 p0_0, .slice A0_1p p0_1.length c0_1p, .slice A0_2p p0_2.length c0_2p, .int .i64 u7] 31, Ck.ol OI 3 A5 c5 u4] := hH'
  clear hH'
  try dsimp only [putL, setL, evL, getL]
  refine HL_nil ?_
  refine hK6 _ _ ?_
  refine HT_seq_k ?_
  intro K9 hK9
  refine HK_draw (fun s' => Gro s8 s') 18 hMix ?_
  have hR := Gro.refl s8
  have hH0 := hH
  refine HK_readP 2 (v := .pointer (some ⟨bp0, 0, none⟩)) rfl (by kernel_rfl) (fun c l s h => hQp c l s h) rfl (fun s' K hK => ?_) rfl rfl (fun _ => hR) ?_
  · refine o_move ?_
    exact hK
  try dsimp only [putL, setL, evL, getL]
  refine HK_readP 3 (v := .pointer (some ⟨bp0, 0, none⟩)) rfl (by kernel_rfl) (fun c l s h => hQp c l s h) rfl (fun s' K hK => ?_) rfl rfl (fun _ => hR) ?_
  · refine o_nilck rfl ?_
    exact hK
  try dsimp only [putL, setL, evL, getL]
  refine HK_readP 4 (v := .pointer (some ⟨bp0, 0 + 1, none⟩)) rfl (by kernel_rfl) (fun c l s h => hQp c l s h) rfl (fun s' K hK => ?_) rfl rfl (fun _ => hR) ?_
  · refine o_faddr' (ft := 22) (off := 1) rfl Try.underlying31 rfl tI22 (by decide) ?_
    exact hK
  try dsimp only [putL, setL, evL, getL]
  refine HK_read 5 (v := .slice A0_1p p0_1.length c0_1p) rfl (by kernel_rfl) (fun c l s h => hQp c l s h) rfl (fun s' hR' K hK => ?_) rfl rfl hR ?_
  · refine o_load' rfl Try.underlying22 rfl (has_gro hR' (hH0.hasv 0 rfl rfl)) ?_
    exact hK
  try dsimp only [putL, setL, evL, getL]
  refine HK_readP 6 (v := .int .i64 p1) rfl (by kernel_rfl) (fun c l s h => hQp c l s h) rfl (fun s' K hK => ?_) rfl rfl (fun _ => hR) ?_
  · refine o_move ?_
    exact hK
  try dsimp only [putL, setL, evL, getL]
  obtain ⟨x10, hx10, H⟩ := headE H
  refine HK_readP 7 (v := .slice (cutA A0_1p c0_1p (Int.toNat p1) (Kd.sz KI)) x10.length (c0_1p - Int.toNat p1)) rfl (by kernel_rfl) (fun c l s h => hQp c l s h) rfl (fun s' K hK => ?_) rfl rfl (fun _ => hR) ?_
  · refine o_cutA (xs := p0_1) (kl := .i64) (kh := .i64) (L := p1) (H := (p0_1.length : Int)) rfl rfl rfl Try.underlying22 tI3 HRp0_1.1 hx10 ?_
    exact hK
  have D10 := HRp0_1.cut hx10
  try dsimp only [putL, setL, evL, getL]
  refine HK_readP 9 (v := .pointer (some ⟨bp0, 0, none⟩)) rfl (by kernel_rfl) (fun c l s h => hQp c l s h) rfl (fun s' K hK => ?_) rfl rfl (fun _ => hR) ?_
  · refine o_move ?_
    exact hK
  try dsimp only [putL, setL, evL, getL]
  refine HK_readP 10 (v := .pointer (some ⟨bp0, 0, none⟩)) rfl (by kernel_rfl) (fun c l s h => hQp c l s h) rfl (fun s' K hK => ?_) rfl rfl (fun _ => hR) ?_
  · refine o_nilck rfl ?_
    exact hK
  try dsimp only [putL, setL, evL, getL]
  refine HK_readP 11 (v := .pointer (some ⟨bp0, 0 + 2, none⟩)) rfl (by kernel_rfl) (fun c l s h => hQp c l s h) rfl (fun s' K hK => ?_) rfl rfl (fun _ => hR) ?_
  · refine o_faddr' (ft := 22) (off := 2) rfl Try.underlying31 rfl tI22 (by decide) ?_
    exact hK
  try dsimp only [putL, setL, evL, getL]
  refine HK_read 12 (v := .slice A0_2p p0_2.length c0_2p) rfl (by kernel_rfl) (fun c l s h => hQp c l s h) rfl (fun s' hR' K hK => ?_) rfl rfl hR ?_
  · refine o_load' rfl Try.underlying22 rfl (has_gro hR' (hH0.hasv 0 rfl rfl)) ?_
    exact hK
  try dsimp only [putL, setL, evL, getL]
  refine HK_readP 13 (v := .int .i64 p1) rfl (by kernel_rfl) (fun c l s h => hQp c l s h) rfl (fun s' K hK => ?_) rfl rfl (fun _ => hR) ?_
  · refine o_move ?_
    exact hK
  try dsimp only [putL, setL, evL, getL]
  obtain ⟨x11, hx11, H⟩ := headE H
  refine HK_readP 14 (v := .slice (cutA A0_2p c0_2p (Int.toNat p1) (Kd.sz KI)) x11.length (c0_2p - Int.toNat p1)) rfl (by kernel_rfl) (fun c l s h => hQp c l s h) rfl (fun s' K hK => ?_) rfl rfl (fun _ => hR) ?_
  · refine o_cutA (xs := p0_2) (kl := .i64) (kh := .i64) (L := p1) (H := (p0_2.length : Int)) rfl rfl rfl Try.underlying22 tI3 HRp0_2.1 hx11 ?_
    exact hK
  have D11 := HRp0_2.cut hx11
  try dsimp only [putL, setL, evL, getL]
  refine HK_readP 0 (v := .pointer (some ⟨bp0, 0, none⟩)) rfl (by kernel_rfl) (fun c l s h => hQp c l s h) rfl (fun s' K hK => ?_) rfl rfl (fun _ => hR) ?_
  · refine o_move ?_
    exact hK
  try dsimp only [putL, setL, evL, getL]
  refine HK_readP 1 (v := .pointer (some ⟨bp0, 0, none⟩)) rfl (by kernel_rfl) (fun c l s h => hQp c l s h) rfl (fun s' K hK => ?_) rfl rfl (fun _ => hR) ?_
  · refine o_move ?_
    exact hK
  try dsimp only [putL, setL, evL, getL]
  obtain ⟨u12, hu12, H⟩ := headE H
  refine HK_one 8 (by kernel_rfl) rfl (fun _ => hR) rfl ?_
  refine o_call (args := #[.slice (cutA A0_1p c0_1p (Int.toNat p1) (Kd.sz KI)) x10.length (c0_1p - Int.toNat p1)]) Try.func94 rfl rfl rfl (slices_Clone_int_int.ok sb s8 no (cutA A0_1p c0_1p (Int.toNat p1) (Kd.sz KI)) (c0_1p - Int.toNat p1) x10 D10 (Hp.own hH.bs) _ hu12) ?_
  rintro _ s12 ⟨A13, c13, rfl, hD⟩
  replace hR := hR.trans hD.gro
  replace hH := hH.back0 hD (Up.refl _ _ _)
  clear hD
  dsimp only [addC, setC, rmC, selC, getC] at hH
  try dsimp only [putL, setL, evL, getL]
  obtain ⟨u14, hu14, H⟩ := headE H
  refine HK_one 15 (by kernel_rfl) rfl (fun _ => hR) rfl ?_
  refine o_call (args := #[.slice (cutA A0_2p c0_2p (Int.toNat p1) (Kd.sz KI)) x11.length (c0_2p - Int.toNat p1)]) Try.func94 rfl rfl rfl (slices_Clone_int_int.ok sb s12 no (cutA A0_2p c0_2p (Int.toNat p1) (Kd.sz KI)) (c0_2p - Int.toNat p1) x11 D11 (Hp.own hH.bs) _ hu14) ?_
  rintro _ s14 ⟨A15, c15, rfl, hD⟩
  replace hR := hR.trans hD.gro
  replace hH := hH.back0 hD (Up.refl _ _ _)
  clear hD
  dsimp only [addC, setC, rmC, selC, getC] at hH
  try dsimp only [putL, setL, evL, getL]
  refine HK_readP 16 (v := .pointer (some ⟨bp0, 0, none⟩)) rfl (by kernel_rfl) (fun c l s h => hQp c l s h) rfl (fun s' K hK => ?_) rfl rfl (fun _ => hR) ?_
  · refine o_nilck rfl ?_
    exact hK
  try dsimp only [putL, setL, evL, getL]
  refine HK_readP 17 (v := .pointer (some ⟨bp0, 0 + 1, none⟩)) rfl (by kernel_rfl) (fun c l s h => hQp c l s h) rfl (fun s' K hK => ?_) rfl rfl (fun _ => hR) ?_
  · refine o_faddr' (ft := 22) (off := 1) rfl Try.underlying31 rfl tI22 (by decide) ?_
    exact hK
  try dsimp only [putL, setL, evL, getL]
  refine HK_one 18 (by kernel_rfl) rfl (fun _ => hR) rfl ?_
  refine o_stvH (vs := [.slice A13 u12.length c13]) (us' := [.int .i64 p0_0, .slice A13 u12.length c13, .slice A0_2p p0_2.length c0_2p, .int .i64 u7]) hH 0 rfl rfl rfl rfl rfl tI22 rfl (List.cons_ne_nil _ _) rfl rfl rfl ?_
  intro s16 hH'
  replace hH : Hp sb s F0 s16 [Ck.ov bp0 [.int .i64 p0_0, .slice A13 u12.length c13, .slice A0_2p p0_2.length c0_2p, .int .i64 u7] 31, Ck.ol OI 3 A5 c5 u4, Ck.ol OI 3 A13 c13 u12, Ck.ol OI 3 A15 c15 u14] := hH'
  clear hH'
  try dsimp only [putL, setL, evL, getL]
  refine HK_readP 19 (v := .pointer (some ⟨bp0, 0, none⟩)) rfl (by kernel_rfl) (fun c l s h => hQp c l s h) rfl (fun s' K hK => ?_) rfl rfl (fun h => by cases h) ?_
  · refine o_nilck rfl ?_
    exact hK
  try dsimp only [putL, setL, evL, getL]
  refine HK_readP 20 (v := .pointer (some ⟨bp0, 0 + 2, none⟩)) rfl (by kernel_rfl) (fun c l s h => hQp c l s h) rfl (fun s' K hK => ?_) rfl rfl (fun h => by cases h) ?_
  · refine o_faddr' (ft := 22) (off := 2) rfl Try.underlying31 rfl tI22 (by decide) ?_
    exact hK
  try dsimp only [putL, setL, evL, getL]
  refine HK_one 21 (by kernel_rfl) rfl (fun h => by cases h) rfl ?_
  refine o_stvH (vs := [.slice A15 u14.length c15]) (us' := [.int .i64 p0_0, .slice A13 u12.length c13, .slice A15 u14.length c15, .int .i64 u7]) hH 0 rfl rfl rfl rfl rfl tI22 rfl (List.cons_ne_nil _ _) rfl rfl rfl ?_
  intro s17 hH'
  replace hH : Hp sb s F0 s17 [Ck.ov bp0 [.int .i64 p0_0, .slice A13 u12.length c13, .slice A15 u14.length c15, .int .i64 u7] 31, Ck.ol OI 3 A5 c5 u4, Ck.ol OI 3 A13 c13 u12, Ck.ol OI 3 A15 c15 u14] := hH'
  clear hH'
  try dsimp only [putL, setL, evL, getL]
  refine HK_done' (by kernel_rfl) (by kernel_rfl) ?_
  refine hK9 _ _ ?_
  refine HT_seq_k ?_
  intro K18 hK18
  refine HT_region ?_
  refine HL_cons rfl ?_
  refine o_move ?_
  try dsimp only [putL, setL, evL, getL]
  refine HL_cons rfl ?_
  refine o_assign ?_
  try dsimp only [putL, setL, evL, getL]
  refine HL_nil ?_
  refine hK18 _ _ ?_
  refine HT_ret ?_
  obtain rfl := Option.some.inj (show some _ = some r from H)
  exact hQr _ _ [.slice A5 u4.length c5] ⟨rfl, trivial⟩ ⟨A5, c5, A13, c13, A15, c15, rfl, hH.sel [1, 2, 3, 0] (by decide)⟩
def impl_TakeBuf.f (p0_0 : Int) (p0_1 : List (Int)) (p0_2 : List (Int)) (p0_3 : Int) (p1 : Int) : Option (Int × (List (Int)) × (List (Int)) × Int × (List (Int)) × Bool) := ((impl_GoodBuf.f p0_0 p0_1 p0_2 p0_3).bind fun u23 => if (!u23) = true then (some true) else ((impl_inRange.f p1 0 (p0_1.length : Int)).bind fun u25 => some (!u25))).bind fun (o : Bool) => match o with | x22 => (if x22 = true then (some (0, [], [], 0, [], false)) else ((impl_Buf_clone.f p0_0 p0_1 p0_2 p0_3).bind fun u31 => (impl_Buf_take.f u31.1 u31.2.1 u31.2.2.1 u31.2.2.2 p1).bind fun u37 => (impl_GoodBuf.f u31.1 u37.2.1 u37.2.2.1 u37.2.2.2).bind fun u43 => if (!u43) = true then (some (0, [], [], 0, [], false)) else (some (u31.1, u37.2.1, u37.2.2.1, u37.2.2.2, u37.1, true))))
def impl_TakeBuf.post (sb s : St) (F0 : Fp) (r : Int × (List (Int)) × (List (Int)) × Int × (List (Int)) × Bool) : Value → St → Prop := fun v s' => ∃ (A1 : Option Addr) (c1 : Nat) (A2 : Option Addr) (c2 : Nat) (A4 : Option Addr) (c4 : Nat), v = .tuple #[.agg #[.int .i64 r.1, .slice A1 r.2.1.length c1, .slice A2 r.2.2.1.length c2, .int .i64 r.2.2.2.1], .slice A4 r.2.2.2.2.1.length c4, .bool r.2.2.2.2.2] ∧ Hp sb s F0 s' [Ck.ol OI 3 A1 c1 r.2.1, Ck.ol OI 3 A2 c2 r.2.2.1, Ck.ol OI 3 A4 c4 r.2.2.2.2.1]
set_option maxRecDepth 100000 in
set_option maxHeartbeats 4000000 in
theorem impl_TakeBuf.ok (sb s : St) (F0 : Fp) (p0_0 : Int) (A0_1p : Option Addr) (c0_1p : Nat) (p0_1 : List (Int)) (A0_2p : Option Addr) (c0_2p : Nat) (p0_2 : List (Int)) (p0_3 : Int) (p1 : Int) (HRp0_1 : Rd KI sb A0_1p c0_1p p0_1) (HRp0_2 : Rd KI sb A0_2p c0_2p p0_2) (hH : Hp sb s F0 s []) (r : Int × (List (Int)) × (List (Int)) × Int × (List (Int)) × Bool) (H : impl_TakeBuf.f p0_0 p0_1 p0_2 p0_3 p1 = some r) : GCall Try.prog 24 #[.agg #[.int .i64 p0_0, .slice A0_1p p0_1.length c0_1p, .slice A0_2p p0_2.length c0_2p, .int .i64 p0_3], .int .i64 p1] s (impl_TakeBuf.post sb s F0 r) := by
  refine GCall_ofk [.cell 4 31, .tmp 5, .tmp 6] [.agg #[.int .i64 p0_0, .slice A0_1p p0_1.length c0_1p, .slice A0_2p p0_2.length c0_2p, .int .i64 p0_3], .int .i64 p1, undef, undef, undef, undef, undef, undef, undef, undef, undef, undef, undef, undef, undef, undef, undef, undef, undef, undef, undef, undef, undef, undef, undef, undef, undef, undef, undef, undef, undef] Try.func24 rfl rfl rfl ?_
  intro w Q hQr hQn hQp
  replace H := topE H
  unfold impl_TakeBuf.f at H
  refine HT_seq_k ?_
  intro K1 hK1
  refine HT_region ?_
  refine HL_cons rfl ?_
  refine o_boxH hH rfl ?_
  intro b2 s2 hH' hG
  replace hH : Hp sb s F0 s2 [Ck.ov b2 [.int .i64 p0_0, .slice A0_1p p0_1.length c0_1p, .slice A0_2p p0_2.length c0_2p, .int .i64 p0_3] 31] := hH'
  clear hH' hG
  try dsimp only [putL, setL, evL, getL]
  refine HL_cons rfl ?_
  refine o_allocH hH tI31 ?_
  intro b3 s3 hH' hG
  replace hH : Hp sb s F0 s3 [Ck.ov b2 [.int .i64 p0_0, .slice A0_1p p0_1.length c0_1p, .slice A0_2p p0_2.length c0_2p, .int .i64 p0_3] 31, Ck.ov b3 [.int .i64 0, .slice none 0 0, .slice none 0 0, .int .i64 0] 31] := hH'
  clear hH' hG
  try dsimp only [putL, setL, evL, getL]
  refine HL_cons rfl ?_
  refine o_assign ?_
  try dsimp only [putL, setL, evL, getL]
  refine HL_cons rfl ?_
  refine o_assign ?_
  try dsimp only [putL, setL, evL, getL]
  refine HL_nil ?_
  refine hK1 _ _ ?_
  refine HT_seq_k ?_
  intro K17 hK17
  refine joinH H fun G18 hG18 H => ?_
  refine HT_joinK (fun l' s' => ∃ (x22 : Bool), G18 x22 = some r ∧ l' = [.agg #[.int .i64 p0_0, .slice A0_1p p0_1.length c0_1p, .slice A0_2p p0_2.length c0_2p, .int .i64 p0_3], .int .i64 p1, .pointer (some ⟨b2, 0, none⟩), undef, .pointer (some ⟨b3, 0, none⟩), .slice none 0 0, .bool false, undef, undef, getL l' 9, getL l' 10, getL l' 11, getL l' 12, getL l' 13, getL l' 14, getL l' 15, getL l' 16, getL l' 17, getL l' 18, .bool x22, undef, undef, undef, undef, undef, undef, undef, undef, undef, undef, undef] ∧ Hp sb s F0 s' [Ck.ov b2 [.int .i64 p0_0, .slice A0_1p p0_1.length c0_1p, .slice A0_2p p0_2.length c0_2p, .int .i64 p0_3] 31, Ck.ov b3 [.int .i64 0, .slice none 0 0, .slice none 0 0, .int .i64 0] 31]) ?_ ?_
  · intro K18 hK18
    refine HT_region ?_
    refine HL_cons rfl ?_
    refine o_loads' [.int .i64 p0_0, .slice A0_1p p0_1.length c0_1p, .slice A0_2p p0_2.length c0_2p, .int .i64 p0_3] rfl Try.underlying31 rfl tI31 rfl (hH.partv 0 rfl (0) [.int .i64 p0_0, .slice A0_1p p0_1.length c0_1p, .slice A0_2p p0_2.length c0_2p, .int .i64 p0_3] rfl) ?_
    try dsimp only [putL, setL, evL, getL]
    obtain ⟨u23, hu23, H⟩ := headE H
    refine HL_cons rfl ?_
    refine o_call (args := #[.agg #[.int .i64 p0_0, .slice A0_1p p0_1.length c0_1p, .slice A0_2p p0_2.length c0_2p, .int .i64 p0_3]]) Try.func67 rfl rfl rfl (impl_GoodBuf.ok sb s3 no p0_0 A0_1p c0_1p p0_1 A0_2p c0_2p p0_2 p0_3 HRp0_1 HRp0_2 (Hp.own hH.bs) _ hu23) ?_
    rintro _ s23 ⟨rfl, hD⟩
    replace hH := hH.back0 hD (Up.refl _ _ _)
    clear hD
    dsimp only [addC, setC, rmC, selC, getC] at hH
    try dsimp only [putL, setL, evL, getL]
    refine HL_cons rfl ?_
    refine o_not rfl ?_
    try dsimp only [putL, setL, evL, getL]
    refine HL_cons rfl ?_
    refine o_move ?_
    try dsimp only [putL, setL, evL, getL]
    rcases Bool.eq_false_or_eq_true (!u23) with hb24 | hb24
    · replace H := iteT hb24 H
      refine HL_skip ?_ ?_
      · exact wantF (j := 3) (b := false) (t := 12) (c := !u23) rfl rfl rfl rfl hb24
      try dsimp only [putL, setL, evL, getL]
      refine HL_skip ?_ ?_
      · exact wantF (j := 3) (b := false) (t := 12) (c := !u23) rfl rfl rfl rfl hb24
      try dsimp only [putL, setL, evL, getL]
      refine HL_skip ?_ ?_
      · exact wantF (j := 3) (b := false) (t := 12) (c := !u23) rfl rfl rfl rfl hb24
      try dsimp only [putL, setL, evL, getL]
      refine HL_skip ?_ ?_
      · exact wantF (j := 3) (b := false) (t := 12) (c := !u23) rfl rfl rfl rfl hb24
      try dsimp only [putL, setL, evL, getL]
      refine HL_skip ?_ ?_
      · exact wantF (j := 3) (b := false) (t := 12) (c := !u23) rfl rfl rfl rfl hb24
      try dsimp only [putL, setL, evL, getL]
      refine HL_skip ?_ ?_
      · exact wantF (j := 3) (b := false) (t := 12) (c := !u23) rfl rfl rfl rfl hb24
      try dsimp only [putL, setL, evL, getL]
      refine HL_cons rfl ?_
      refine o_pickT rfl hb24 ?_
      try dsimp only [putL, setL, evL, getL]
      refine HL_nil ?_
      exact hK18 _ _ ⟨true, H, rfl, hH⟩
    · replace H := iteF hb24 H
      refine HL_want ?_ ?_
      · exact wantT (j := 3) (b := false) (t := 12) (c := !u23) rfl rfl rfl rfl hb24
      refine o_move ?_
      try dsimp only [putL, setL, evL, getL]
      refine HL_want ?_ ?_
      · exact wantT (j := 3) (b := false) (t := 12) (c := !u23) rfl rfl rfl rfl hb24
      refine o_faddr' (ft := 22) (off := 1) rfl Try.underlying31 rfl tI22 (by decide) ?_
      try dsimp only [putL, setL, evL, getL]
      refine HL_want ?_ ?_
      · exact wantT (j := 3) (b := false) (t := 12) (c := !u23) rfl rfl rfl rfl hb24
      refine o_load' rfl Try.underlying22 rfl (hH.hasv 0 rfl rfl) ?_
      try dsimp only [putL, setL, evL, getL]
      refine HL_want ?_ ?_
      · exact wantT (j := 3) (b := false) (t := 12) (c := !u23) rfl rfl rfl rfl hb24
      refine o_len rfl Try.underlying22 ?_
      try dsimp only [putL, setL, evL, getL]
      obtain ⟨u25, hu25, H⟩ := headE H
      refine HL_want ?_ ?_
      · exact wantT (j := 3) (b := false) (t := 12) (c := !u23) rfl rfl rfl rfl hb24
      refine o_call (args := #[.int .i64 p1, .int .i64 0, .int .i64 (p0_1.length : Int)]) Try.func86 rfl rfl rfl (impl_inRange.ok sb s23 no p1 0 (p0_1.length : Int) (Hp.own hH.bs) _ hu25) ?_
      rintro _ s25 ⟨rfl, hD⟩
      replace hH := hH.back0 hD (Up.refl _ _ _)
      clear hD
      dsimp only [addC, setC, rmC, selC, getC] at hH
      try dsimp only [putL, setL, evL, getL]
      refine HL_want ?_ ?_
      · exact wantT (j := 3) (b := false) (t := 12) (c := !u23) rfl rfl rfl rfl hb24
      refine o_not rfl ?_
      try dsimp only [putL, setL, evL, getL]
      refine HL_cons rfl ?_
      refine o_pickF rfl hb24 ?_
      try dsimp only [putL, setL, evL, getL]
      refine HL_nil ?_
      exact hK18 _ _ ⟨!u25, H, rfl, hH⟩
  · rintro l' s26 ⟨x22, H, hl, hH⟩
    generalize getL l' 9 = j9, getL l' 10 = j10, getL l' 11 = j11, getL l' 12 = j12, getL l' 13 = j13, getL l' 14 = j14, getL l' 15 = j15, getL l' 16 = j16, getL l' 17 = j17, getL l' 18 = j18 at hl
    subst hl
    replace H := hG18 _ H
    try dsimp only at H
    rcases Bool.eq_false_or_eq_true x22 with hb27 | hb27
    · replace H := iteT hb27 H
      refine HT_true (congrArg Value.bool hb27) ?_
      refine HT_seq_k ?_
      intro K28 hK28
      refine HT_region ?_
      refine HL_cons rfl ?_
      refine o_build (pl := [(0, 1), (1, 1), (2, 1), (3, 1)]) (cs := #[.int .i64 0, .slice none 0 0, .slice none 0 0, .int .i64 0]) Try.underlying31 tI31 (by kernel_rfl) (by kernel_rfl) rfl ?_
      try dsimp only [putL, setL, evL, getL]
      refine HL_cons rfl ?_
      refine o_stvH (vs := [.int .i64 0, .slice none 0 0, .slice none 0 0, .int .i64 0]) (us' := [.int .i64 0, .slice none 0 0, .slice none 0 0, .int .i64 0]) hH 1 rfl rfl rfl rfl rfl tI31 rfl (List.cons_ne_nil _ _) rfl rfl rfl ?_
      intro s29 hH'
      replace hH : Hp sb s F0 s29 [Ck.ov b2 [.int .i64 p0_0, .slice A0_1p p0_1.length c0_1p, .slice A0_2p p0_2.length c0_2p, .int .i64 p0_3] 31, Ck.ov b3 [.int .i64 0, .slice none 0 0, .slice none 0 0, .int .i64 0] 31] := hH'
      clear hH'
      try dsimp only [putL, setL, evL, getL]
      refine HL_cons rfl ?_
      refine o_assign ?_
      try dsimp only [putL, setL, evL, getL]
      refine HL_cons rfl ?_
      refine o_assign ?_
      try dsimp only [putL, setL, evL, getL]
      refine HL_nil ?_
      refine hK28 _ _ ?_
      refine HT_ret ?_
      obtain rfl := Option.some.inj (show some _ = some r from H)
      exact hQr _ _ [.agg #[.int .i64 0, .slice none 0 0, .slice none 0 0, .int .i64 0], .slice none 0 0, .bool false] ⟨ResV.cells rfl Try.underlying31 rfl tI31 (hH.var 1 rfl) rfl, rfl, rfl, trivial⟩ ⟨none, 0, none, 0, none, 0, rfl, (((hH.nil (K := KI) OI 3).nil (K := KI) OI 3).nil (K := KI) OI 3).sel [2, 3, 4] (by decide)⟩
    · replace H := iteF hb27 H
      refine HT_false (congrArg Value.bool hb27) ?_
      refine HT_skip ?_
      refine hK17 _ _ ?_
      refine HT_seq_k ?_
      intro K30 hK30
      refine HT_region ?_
      refine HL_cons rfl ?_
      refine o_loads' [.int .i64 p0_0, .slice A0_1p p0_1.length c0_1p, .slice A0_2p p0_2.length c0_2p, .int .i64 p0_3] rfl Try.underlying31 rfl tI31 rfl (hH.partv 0 rfl (0) [.int .i64 p0_0, .slice A0_1p p0_1.length c0_1p, .slice A0_2p p0_2.length c0_2p, .int .i64 p0_3] rfl) ?_
      try dsimp only [putL, setL, evL, getL]
      obtain ⟨u31, hu31, H⟩ := headE H
      refine HL_cons rfl ?_
      refine o_call (args := #[.agg #[.int .i64 p0_0, .slice A0_1p p0_1.length c0_1p, .slice A0_2p p0_2.length c0_2p, .int .i64 p0_3]]) Try.func87 rfl rfl rfl (impl_Buf_clone.ok sb s26 no p0_0 A0_1p c0_1p p0_1 A0_2p c0_2p p0_2 p0_3 HRp0_1 HRp0_2 (Hp.own hH.bs) _ hu31) ?_
      rintro _ s31 ⟨A32, c32, A33, c33, rfl, hD⟩
      replace hH := hH.back0 hD (Up.refl _ _ _)
      clear hD
      dsimp only [addC, setC, rmC, selC, getC] at hH
      try dsimp only [putL, setL, evL, getL]
      refine HL_cons rfl ?_
      refine o_allocH hH tI31 ?_
      intro b34 s34 hH' hG
      replace hH : Hp sb s F0 s34 [Ck.ov b2 [.int .i64 p0_0, .slice A0_1p p0_1.length c0_1p, .slice A0_2p p0_2.length c0_2p, .int .i64 p0_3] 31, Ck.ov b3 [.int .i64 0, .slice none 0 0, .slice none 0 0, .int .i64 0] 31, Ck.ol OI 3 A32 c32 u31.2.1, Ck.ol OI 3 A33 c33 u31.2.2.1, Ck.ov b34 [.int .i64 0, .slice none 0 0, .slice none 0 0, .int .i64 0] 31] := hH'
      clear hH' hG
      try dsimp only [putL, setL, evL, getL]
      refine HL_cons rfl ?_
      refine o_stvH (vs := [.int .i64 u31.1, .slice A32 u31.2.1.length c32, .slice A33 u31.2.2.1.length c33, .int .i64 u31.2.2.2]) (us' := [.int .i64 u31.1, .slice A32 u31.2.1.length c32, .slice A33 u31.2.2.1.length c33, .int .i64 u31.2.2.2]) hH 4 rfl rfl rfl rfl rfl tI31 rfl (List.cons_ne_nil _ _) rfl rfl rfl ?_
      intro s35 hH'
      replace hH : Hp sb s F0 s35 [Ck.ov b2 [.int .i64 p0_0, .slice A0_1p p0_1.length c0_1p, .slice A0_2p p0_2.length c0_2p, .int .i64 p0_3] 31, Ck.ov b3 [.int .i64 0, .slice none 0 0, .slice none 0 0, .int .i64 0] 31, Ck.ol OI 3 A32 c32 u31.2.1, Ck.ol OI 3 A33 c33 u31.2.2.1, Ck.ov b34 [.int .i64 u31.1, .slice A32 u31.2.1.length c32, .slice A33 u31.2.2.1.length c33, .int .i64 u31.2.2.2] 31] := hH'
      clear hH'
      try dsimp only [putL, setL, evL, getL]
      refine HL_nil ?_
      refine hK30 _ _ ?_
      refine HT_seq_k ?_
      intro K36 hK36
      refine HT_region ?_
      refine HL_cons rfl ?_
      refine o_move ?_
      try dsimp only [putL, setL, evL, getL]
      obtain ⟨u37, hu37, H⟩ := headE H
      obtain ⟨F1, sx, hx, hC, hA, hB⟩ := hH.takeT [4] (by decide)
      dsimp only [addC, setC, rmC, selC, getC] at hA
      refine HL_cons rfl ?_
      refine o_call (args := #[.pointer (some ⟨b34, 0, none⟩), .int .i64 p1]) Try.func88 rfl rfl rfl (impl_Buf_take.ok sx s35 F1 b34 u31.1 A32 c32 u31.2.1 A33 c33 u31.2.2.1 u31.2.2.2 p1 (Ck.rdT hx (hC 2 (by decide)) rfl) (Ck.rdT hx (hC 3 (by decide)) rfl) hA _ hu37) ?_
      rintro _ s37 ⟨A38, c38, A39, c39, A40, c40, rfl, hD⟩
      replace hH := hB _ _ _ inferInstance hD
      clear hD hA hB hx hC
      dsimp only [addC, setC, rmC, selC, getC] at hH
      try dsimp only [putL, setL, evL, getL]
      refine HL_cons rfl ?_
      refine o_assign ?_
      try dsimp only [putL, setL, evL, getL]
      refine HL_nil ?_
      refine hK36 _ _ ?_
      refine HT_seq_k ?_
      intro K41 hK41
      refine HT_seq_k ?_
      intro K42 hK42
      refine HT_region ?_
      refine HL_cons rfl ?_
      refine o_loads' [.int .i64 u31.1, .slice A39 u37.2.1.length c39, .slice A40 u37.2.2.1.length c40, .int .i64 u37.2.2.2] rfl Try.underlying31 rfl tI31 rfl (hH.partv 8 rfl (0) [.int .i64 u31.1, .slice A39 u37.2.1.length c39, .slice A40 u37.2.2.1.length c40, .int .i64 u37.2.2.2] rfl) ?_
      try dsimp only [putL, setL, evL, getL]
      obtain ⟨u43, hu43, H⟩ := headE H
      refine HL_cons rfl ?_
      refine o_call (args := #[.agg #[.int .i64 u31.1, .slice A39 u37.2.1.length c39, .slice A40 u37.2.2.1.length c40, .int .i64 u37.2.2.2]]) Try.func67 rfl rfl rfl (impl_GoodBuf.ok s37 s37 no u31.1 A39 c39 u37.2.1 A40 c40 u37.2.2.1 u37.2.2.2 (hH.rd 6 rfl) (hH.rd 7 rfl) (Hp.own (Bs.refl s37)) _ hu43) ?_
      rintro _ s43 ⟨rfl, hD⟩
      replace hH := hH.back0T hD
      clear hD
      dsimp only [addC, setC, rmC, selC, getC] at hH
      try dsimp only [putL, setL, evL, getL]
      refine HL_cons rfl ?_
      refine o_not rfl ?_
      try dsimp only [putL, setL, evL, getL]
      refine HL_nil ?_
      refine hK42 _ _ ?_
      rcases Bool.eq_false_or_eq_true (!u43) with hb44 | hb44
      · replace H := iteT hb44 H
        refine HT_true (congrArg Value.bool hb44) ?_
        refine HT_seq_k ?_
        intro K45 hK45
        refine HT_region ?_
        refine HL_cons rfl ?_
        refine o_build (pl := [(0, 1), (1, 1), (2, 1), (3, 1)]) (cs := #[.int .i64 0, .slice none 0 0, .slice none 0 0, .int .i64 0]) Try.underlying31 tI31 (by kernel_rfl) (by kernel_rfl) rfl ?_
        try dsimp only [putL, setL, evL, getL]
        refine HL_cons rfl ?_
        refine o_stvH (vs := [.int .i64 0, .slice none 0 0, .slice none 0 0, .int .i64 0]) (us' := [.int .i64 0, .slice none 0 0, .slice none 0 0, .int .i64 0]) hH 1 rfl rfl rfl rfl rfl tI31 rfl (List.cons_ne_nil _ _) rfl rfl rfl ?_
        intro s46 hH'
        replace hH : Hp sb s F0 s46 [Ck.ov b2 [.int .i64 p0_0, .slice A0_1p p0_1.length c0_1p, .slice A0_2p p0_2.length c0_2p, .int .i64 p0_3] 31, Ck.ov b3 [.int .i64 0, .slice none 0 0, .slice none 0 0, .int .i64 0] 31, Ck.ol OI 3 A32 c32 u31.2.1, Ck.ol OI 3 A33 c33 u31.2.2.1, Ck.emp, Ck.ol OI 3 A38 c38 u37.1, Ck.ol OI 3 A39 c39 u37.2.1, Ck.ol OI 3 A40 c40 u37.2.2.1, Ck.ov b34 [.int .i64 u31.1, .slice A39 u37.2.1.length c39, .slice A40 u37.2.2.1.length c40, .int .i64 u37.2.2.2] 31] := hH'
        clear hH'
        try dsimp only [putL, setL, evL, getL]
        refine HL_cons rfl ?_
        refine o_assign ?_
        try dsimp only [putL, setL, evL, getL]
        refine HL_cons rfl ?_
        refine o_assign ?_
        try dsimp only [putL, setL, evL, getL]
        refine HL_nil ?_
        refine hK45 _ _ ?_
        refine HT_ret ?_
        obtain rfl := Option.some.inj (show some _ = some r from H)
        exact hQr _ _ [.agg #[.int .i64 0, .slice none 0 0, .slice none 0 0, .int .i64 0], .slice none 0 0, .bool false] ⟨ResV.cells rfl Try.underlying31 rfl tI31 (hH.var 1 rfl) rfl, rfl, rfl, trivial⟩ ⟨none, 0, none, 0, none, 0, rfl, (((hH.nil (K := KI) OI 3).nil (K := KI) OI 3).nil (K := KI) OI 3).sel [9, 10, 11] (by decide)⟩
      · replace H := iteF hb44 H
        refine HT_false (congrArg Value.bool hb44) ?_
        refine HT_skip ?_
        refine hK41 _ _ ?_
        refine HT_seq_k ?_
        intro K47 hK47
        refine HT_region ?_
        refine HL_cons rfl ?_
        refine o_loads' [.int .i64 u31.1, .slice A39 u37.2.1.length c39, .slice A40 u37.2.2.1.length c40, .int .i64 u37.2.2.2] rfl Try.underlying31 rfl tI31 rfl (hH.partv 8 rfl (0) [.int .i64 u31.1, .slice A39 u37.2.1.length c39, .slice A40 u37.2.2.1.length c40, .int .i64 u37.2.2.2] rfl) ?_
        try dsimp only [putL, setL, evL, getL]
        refine HL_cons rfl ?_
        refine o_move ?_
        try dsimp only [putL, setL, evL, getL]
        refine HL_cons rfl ?_
        refine o_stvH (vs := [.int .i64 u31.1, .slice A39 u37.2.1.length c39, .slice A40 u37.2.2.1.length c40, .int .i64 u37.2.2.2]) (us' := [.int .i64 u31.1, .slice A39 u37.2.1.length c39, .slice A40 u37.2.2.1.length c40, .int .i64 u37.2.2.2]) hH 1 rfl rfl rfl rfl rfl tI31 rfl (List.cons_ne_nil _ _) rfl rfl rfl ?_
        intro s48 hH'
        replace hH : Hp sb s F0 s48 [Ck.ov b2 [.int .i64 p0_0, .slice A0_1p p0_1.length c0_1p, .slice A0_2p p0_2.length c0_2p, .int .i64 p0_3] 31, Ck.ov b3 [.int .i64 u31.1, .slice A39 u37.2.1.length c39, .slice A40 u37.2.2.1.length c40, .int .i64 u37.2.2.2] 31, Ck.ol OI 3 A32 c32 u31.2.1, Ck.ol OI 3 A33 c33 u31.2.2.1, Ck.emp, Ck.ol OI 3 A38 c38 u37.1, Ck.ol OI 3 A39 c39 u37.2.1, Ck.ol OI 3 A40 c40 u37.2.2.1, Ck.ov b34 [.int .i64 u31.1, .slice A39 u37.2.1.length c39, .slice A40 u37.2.2.1.length c40, .int .i64 u37.2.2.2] 31] := hH'
        clear hH'
        try dsimp only [putL, setL, evL, getL]
        refine HL_cons rfl ?_
        refine o_assign ?_
        try dsimp only [putL, setL, evL, getL]
        refine HL_cons rfl ?_
        refine o_assign ?_
        try dsimp only [putL, setL, evL, getL]
        refine HL_nil ?_
        refine hK47 _ _ ?_
        refine HT_ret ?_
        obtain rfl := Option.some.inj (show some _ = some r from H)
        exact hQr _ _ [.agg #[.int .i64 u31.1, .slice A39 u37.2.1.length c39, .slice A40 u37.2.2.1.length c40, .int .i64 u37.2.2.2], .slice A38 u37.1.length c38, .bool true] ⟨ResV.cells rfl Try.underlying31 rfl tI31 (hH.var 1 rfl) rfl, rfl, rfl, trivial⟩ ⟨A39, c39, A40, c40, A38, c38, rfl, hH.sel [6, 7, 5] (by decide)⟩
def laws_eqIntS.l1 (p0 : List (Int)) (p1 : List (Int)) : Nat → Int → Option (Lo Unit Bool)
  | 0, _ => none
  | kf + 1, x48 => if (decide (x48 < (p0.length : Int))) = true then ((rd? p0 x48).bind fun u65 => (rd? p1 x48).bind fun u66 => if (u65 != u66) = true then ((some false).bind fun z => some (Lo.ret z)) else (laws_eqIntS.l1 p0 p1 kf (IntKind.i64.wrap (x48 + 1)))) else (some (Lo.go ()))
def laws_eqIntS.f (p0 : List (Int)) (p1 : List (Int)) : Option Bool := if ((p0.length : Int) != (p1.length : Int)) = true then (some false) else ((laws_eqIntS.l1 p0 p1 ((((p0.length : Int)) - (0)).toNat + 2) 0).bind fun (o : Lo Unit Bool) => match o with | .go () => (some true) | .ret z => some z)
def laws_eqIntS.post (sb s : St) (F0 : Fp) (r : Bool) : Value → St → Prop := fun v s' => v = .bool r ∧ Hp sb s F0 s' []
set_option maxRecDepth 100000 in
set_option maxHeartbeats 4000000 in
theorem laws_eqIntS.ok (sb s : St) (F0 : Fp) (A0p : Option Addr) (c0p : Nat) (p0 : List (Int)) (A1p : Option Addr) (c1p : Nat) (p1 : List (Int)) (HRp0 : Rd KI sb A0p c0p p0) (HRp1 : Rd KI sb A1p c1p p1) (hH : Hp sb s F0 s []) (r : Bool) (H : laws_eqIntS.f p0 p1 = some r) : GCall Try.prog 18 #[.slice A0p p0.length c0p, .slice A1p p1.length c1p] s (laws_eqIntS.post sb s F0 r) := by
  refine GCall_ofk [.tmp 4] [.slice A0p p0.length c0p, .slice A1p p1.length c1p, undef, undef, undef, undef, undef, undef, undef, undef, undef, undef, undef, undef, undef, undef, undef, undef, undef, undef, undef, undef, undef, undef, undef, undef] Try.func18 rfl rfl rfl ?_
  intro w Q hQr hQn hQp
  replace H := topE H
  unfold laws_eqIntS.f at H
  refine HT_seq_k ?_
  intro K1 hK1
  refine HT_region ?_
  refine HL_cons rfl ?_
  refine o_assign ?_
  try dsimp only [putL, setL, evL, getL]
  refine HL_nil ?_
  refine hK1 _ _ ?_
  refine HT_seq_k ?_
  intro K2 hK2
  refine HT_seq_k ?_
  intro K3 hK3
  refine HT_region ?_
  refine HL_cons rfl ?_
  refine o_move ?_
  try dsimp only [putL, setL, evL, getL]
  refine HL_cons rfl ?_
  refine o_len rfl Try.underlying22 ?_
  try dsimp only [putL, setL, evL, getL]
  refine HL_cons rfl ?_
  refine o_move ?_
  try dsimp only [putL, setL, evL, getL]
  refine HL_cons rfl ?_
  refine o_len rfl Try.underlying22 ?_
  try dsimp only [putL, setL, evL, getL]
  refine HL_cons rfl ?_
  refine o_bin rfl rfl rfl ?_
  try dsimp only [putL, setL, evL, getL]
  refine HL_nil ?_
  refine hK3 _ _ ?_
  rcases Bool.eq_false_or_eq_true ((p0.length : Int) != (p1.length : Int)) with hb4 | hb4
  · replace H := iteT hb4 H
    refine HT_true (congrArg Value.bool hb4) ?_
    refine HT_seq_k ?_
    intro K5 hK5
    refine HT_region ?_
    refine HL_cons rfl ?_
    refine o_assign ?_
    try dsimp only [putL, setL, evL, getL]
    refine HL_nil ?_
    refine hK5 _ _ ?_
    refine HT_ret ?_
    obtain rfl := Option.some.inj (show some _ = some r from H)
    exact hQr _ _ [.bool false] ⟨rfl, trivial⟩ ⟨rfl, hH⟩
  · replace H := iteF hb4 H
    refine HT_false (congrArg Value.bool hb4) ?_
    refine HT_skip ?_
    refine hK2 _ _ ?_
    refine HT_seq_k ?_
    intro K6 hK6
    refine HT_seq_k ?_
    intro K7 hK7
    refine HT_region ?_
    refine HL_cons rfl ?_
    refine o_assign ?_
    try dsimp only [putL, setL, evL, getL]
    refine HL_nil ?_
    refine hK7 _ _ ?_
    refine joinH H fun G8 hG8 H => ?_
    refine HT_toK (fun l' s' => G8 (.go ()) = some r ∧ l' = [.slice A0p p0.length c0p, .slice A1p p1.length c1p, undef, undef, getL l' 4, getL l' 5, .slice A0p p0.length c0p, .int .i64 (p0.length : Int), .slice A1p p1.length c1p, .int .i64 (p1.length : Int), .bool ((p0.length : Int) != (p1.length : Int)), getL l' 11, getL l' 12, getL l' 13, getL l' 14, getL l' 15, getL l' 16, getL l' 17, getL l' 18, getL l' 19, getL l' 20, getL l' 21, getL l' 22, getL l' 23, getL l' 24, getL l' 25] ∧ Hp sb s F0 s' []) ?_ ?_
    · intro K8 hK8
      refine HT_block ?_
      refine HT_loopK (fun kf l' s' => ∃ (x48 : Int), (laws_eqIntS.l1 p0 p1 kf x48).bind G8 = some r ∧ l' = [.slice A0p p0.length c0p, .slice A1p p1.length c1p, undef, undef, getL l' 4, .int .i64 x48, .slice A0p p0.length c0p, .int .i64 (p0.length : Int), .slice A1p p1.length c1p, .int .i64 (p1.length : Int), .bool ((p0.length : Int) != (p1.length : Int)), getL l' 11, getL l' 12, getL l' 13, getL l' 14, getL l' 15, getL l' 16, getL l' 17, getL l' 18, getL l' 19, getL l' 20, getL l' 21, getL l' 22, getL l' 23, getL l' 24, getL l' 25] ∧ Hp sb s F0 s' []) ((((p0.length : Int)) - (0)).toNat + 2) ⟨0, H, rfl, hH⟩ ?_
      rintro kf l' s59 ⟨x48, H, hl, hH⟩ K59 hK59
      generalize getL l' 4 = j4, getL l' 11 = j11, getL l' 12 = j12, getL l' 13 = j13, getL l' 14 = j14, getL l' 15 = j15, getL l' 16 = j16, getL l' 17 = j17, getL l' 18 = j18, getL l' 19 = j19, getL l' 20 = j20, getL l' 21 = j21, getL l' 22 = j22, getL l' 23 = j23, getL l' 24 = j24, getL l' 25 = j25 at hl
      subst hl
      cases kf with
      | zero => simp [laws_eqIntS.l1] at H
      | succ kf =>
        rw [laws_eqIntS.l1] at H
        refine HT_seq_k ?_
        intro K60 hK60
        refine HT_seq_k ?_
        intro K61 hK61
        refine HT_region ?_
        refine HL_cons rfl ?_
        refine o_move ?_
        try dsimp only [putL, setL, evL, getL]
        refine HL_cons rfl ?_
        refine o_move ?_
        try dsimp only [putL, setL, evL, getL]
        refine HL_cons rfl ?_
        refine o_len rfl Try.underlying22 ?_
        try dsimp only [putL, setL, evL, getL]
        refine HL_cons rfl ?_
        refine o_bin rfl rfl rfl ?_
        try dsimp only [putL, setL, evL, getL]
        refine HL_nil ?_
        refine hK61 _ _ ?_
        rcases Bool.eq_false_or_eq_true (decide (x48 < (p0.length : Int))) with hb62 | hb62
        · replace H := iteT hb62 H
          refine HT_true (congrArg Value.bool hb62) ?_
          refine HT_skip ?_
          refine hK60 _ _ ?_
          refine HT_seq_k ?_
          intro K63 hK63
          refine HT_block ?_
          refine HT_seq_k ?_
          intro K64 hK64
          refine HK_draw (fun s' => Gro s59 s') 10 hMix ?_
          have hR := Gro.refl s59
          have hH0 := hH
          refine HK_readP 0 (v := .slice A0p p0.length c0p) rfl (by kernel_rfl) (fun c l s h => hQp c l s h) rfl (fun s' K hK => ?_) rfl rfl (fun _ => hR) ?_
          · refine o_move ?_
            exact hK
          try dsimp only [putL, setL, evL, getL]
          refine HK_readP 1 (v := .int .i64 x48) rfl (by kernel_rfl) (fun c l s h => hQp c l s h) rfl (fun s' K hK => ?_) rfl rfl (fun _ => hR) ?_
          · refine o_move ?_
            exact hK
          try dsimp only [putL, setL, evL, getL]
          obtain ⟨u65, hu65, H⟩ := headE H
          obtain ⟨b65, o65, cs65, hr65, hh65, hel65⟩ := Rd.elb HRp0 hu65
          obtain rfl := hr65
          refine HK_readP 2 (v := .pointer (some ⟨b65, o65, none⟩)) rfl (by kernel_rfl) (fun c l s h => hQp c l s h) rfl (fun s' K hK => ?_) rfl rfl (fun _ => hR) ?_
          · refine hel65 s' rfl rfl Try.underlying22 tI3 ?_
            exact hK
          try dsimp only [putL, setL, evL, getL]
          refine HK_read 3 (v := .int .i64 u65) rfl (by kernel_rfl) (fun c l s h => hQp c l s h) rfl (fun s' hR' K hK => ?_) rfl rfl hR ?_
          · refine o_load' rfl Try.underlying3 rfl ((hh65 (hH0.bs.mono.trans hR'.mono)) 0 _ rfl) ?_
            exact hK
          try dsimp only [putL, setL, evL, getL]
          refine HK_readP 4 (v := .slice A1p p1.length c1p) rfl (by kernel_rfl) (fun c l s h => hQp c l s h) rfl (fun s' K hK => ?_) rfl rfl (fun _ => hR) ?_
          · refine o_move ?_
            exact hK
          try dsimp only [putL, setL, evL, getL]
          refine HK_readP 5 (v := .int .i64 x48) rfl (by kernel_rfl) (fun c l s h => hQp c l s h) rfl (fun s' K hK => ?_) rfl rfl (fun _ => hR) ?_
          · refine o_move ?_
            exact hK
          try dsimp only [putL, setL, evL, getL]
          obtain ⟨u66, hu66, H⟩ := headE H
          obtain ⟨b66, o66, cs66, hr66, hh66, hel66⟩ := Rd.elb HRp1 hu66
          obtain rfl := hr66
          refine HK_readP 6 (v := .pointer (some ⟨b66, o66, none⟩)) rfl (by kernel_rfl) (fun c l s h => hQp c l s h) rfl (fun s' K hK => ?_) rfl rfl (fun _ => hR) ?_
          · refine hel66 s' rfl rfl Try.underlying22 tI3 ?_
            exact hK
          try dsimp only [putL, setL, evL, getL]
          refine HK_read 7 (v := .int .i64 u66) rfl (by kernel_rfl) (fun c l s h => hQp c l s h) rfl (fun s' hR' K hK => ?_) rfl rfl hR ?_
          · refine o_load' rfl Try.underlying3 rfl ((hh66 (hH0.bs.mono.trans hR'.mono)) 0 _ rfl) ?_
            exact hK
          try dsimp only [putL, setL, evL, getL]
          refine HK_readP 8 (v := .bool (u65 != u66)) rfl (by kernel_rfl) (fun c l s h => hQp c l s h) rfl (fun s' K hK => ?_) rfl rfl (fun _ => hR) ?_
          · refine o_bin rfl rfl rfl ?_
            exact hK
          try dsimp only [putL, setL, evL, getL]
          refine HK_done (fun _ => hR) (by kernel_rfl) ?_
          refine hK64 _ _ ?_
          rcases Bool.eq_false_or_eq_true (u65 != u66) with hb67 | hb67
          · replace H := iteT hb67 H
            refine HT_true (congrArg Value.bool hb67) ?_
            refine HT_seq_k ?_
            intro K68 hK68
            refine HT_region ?_
            refine HL_cons rfl ?_
            refine o_assign ?_
            try dsimp only [putL, setL, evL, getL]
            refine HL_nil ?_
            refine hK68 _ _ ?_
            refine HT_ret ?_
            replace H := escH (fun z hz => hG8 _ hz) H
            obtain rfl := Option.some.inj (show some _ = some r from H)
            exact hQr _ _ [.bool false] ⟨rfl, trivial⟩ ⟨rfl, hH⟩
          · replace H := iteF hb67 H
            refine HT_false (congrArg Value.bool hb67) ?_
            refine HT_skip ?_
            refine hK63 _ _ ?_
            refine HT_region ?_
            refine HL_cons rfl ?_
            refine o_move ?_
            try dsimp only [putL, setL, evL, getL]
            refine HL_cons rfl ?_
            refine o_bin rfl rfl rfl ?_
            try dsimp only [putL, setL, evL, getL]
            refine HL_cons rfl ?_
            refine o_assign ?_
            try dsimp only [putL, setL, evL, getL]
            refine HL_nil ?_
            exact hK59 _ _ ⟨kf, Nat.lt_succ_self kf, IntKind.i64.wrap (x48 + 1), H, rfl, hH⟩
        · replace H := iteF hb62 H
          refine HT_false (congrArg Value.bool hb62) ?_
          refine HT_exit ?_
          exact hK8 _ _ ⟨H, rfl, hH⟩
    · rintro l' s69 ⟨H, hl, hH⟩
      generalize getL l' 4 = j4, getL l' 5 = j5, getL l' 11 = j11, getL l' 12 = j12, getL l' 13 = j13, getL l' 14 = j14, getL l' 15 = j15, getL l' 16 = j16, getL l' 17 = j17, getL l' 18 = j18, getL l' 19 = j19, getL l' 20 = j20, getL l' 21 = j21, getL l' 22 = j22, getL l' 23 = j23, getL l' 24 = j24, getL l' 25 = j25 at hl
      subst hl
      replace H := hG8 _ H
      try dsimp only at H
      refine hK6 _ _ ?_
      refine HT_seq_k ?_
      intro K70 hK70
      refine HT_region ?_
      refine HL_cons rfl ?_
      refine o_assign ?_
      try dsimp only [putL, setL, evL, getL]
      refine HL_nil ?_
      refine hK70 _ _ ?_
      refine HT_ret ?_
      obtain rfl := Option.some.inj (show some _ = some r from H)
      exact hQr _ _ [.bool true] ⟨rfl, trivial⟩ ⟨rfl, hH⟩
def laws_eqBuf.f (p0_0 : Int) (p0_1 : List (Int)) (p0_2 : List (Int)) (p0_3 : Int) (p1_0 : Int) (p1_1 : List (Int)) (p1_2 : List (Int)) (p1_3 : Int) : Option Bool := if (p0_0 != p1_0) = true then (some false) else ((laws_eqIntS.f p0_1 p1_1).bind fun u10 => if (!u10) = true then (some false) else ((laws_eqIntS.f p0_2 p1_2).bind fun u15 => if (!u15) = true then (some false) else (if (p0_3 != p1_3) = true then (some false) else (some true))))
def laws_eqBuf.post (sb s : St) (F0 : Fp) (r : Bool) : Value → St → Prop := fun v s' => v = .bool r ∧ Hp sb s F0 s' []
set_option maxRecDepth 100000 in
set_option maxHeartbeats 4000000 in
theorem laws_eqBuf.ok (sb s : St) (F0 : Fp) (p0_0 : Int) (A0_1p : Option Addr) (c0_1p : Nat) (p0_1 : List (Int)) (A0_2p : Option Addr) (c0_2p : Nat) (p0_2 : List (Int)) (p0_3 : Int) (p1_0 : Int) (A1_1p : Option Addr) (c1_1p : Nat) (p1_1 : List (Int)) (A1_2p : Option Addr) (c1_2p : Nat) (p1_2 : List (Int)) (p1_3 : Int) (HRp0_1 : Rd KI sb A0_1p c0_1p p0_1) (HRp0_2 : Rd KI sb A0_2p c0_2p p0_2) (HRp1_1 : Rd KI sb A1_1p c1_1p p1_1) (HRp1_2 : Rd KI sb A1_2p c1_2p p1_2) (hH : Hp sb s F0 s []) (r : Bool) (H : laws_eqBuf.f p0_0 p0_1 p0_2 p0_3 p1_0 p1_1 p1_2 p1_3 = some r) : GCall Try.prog 25 #[.agg #[.int .i64 p0_0, .slice A0_1p p0_1.length c0_1p, .slice A0_2p p0_2.length c0_2p, .int .i64 p0_3], .agg #[.int .i64 p1_0, .slice A1_1p p1_1.length c1_1p, .slice A1_2p p1_2.length c1_2p, .int .i64 p1_3]] s (laws_eqBuf.post sb s F0 r) := by
  refine GCall_ofk [.tmp 4] [.agg #[.int .i64 p0_0, .slice A0_1p p0_1.length c0_1p, .slice A0_2p p0_2.length c0_2p, .int .i64 p0_3], .agg #[.int .i64 p1_0, .slice A1_1p p1_1.length c1_1p, .slice A1_2p p1_2.length c1_2p, .int .i64 p1_3], undef, undef, undef, undef, undef, undef, undef, undef, undef, undef, undef, undef, undef, undef, undef, undef, undef, undef, undef, undef, undef, undef, undef, undef, undef] Try.func25 rfl rfl rfl ?_
  intro w Q hQr hQn hQp
  replace H := topE H
  unfold laws_eqBuf.f at H
  refine HT_seq_k ?_
  intro K1 hK1
  refine HT_region ?_
  refine HL_cons rfl ?_
  refine o_boxH hH rfl ?_
  intro b2 s2 hH' hG
  replace hH : Hp sb s F0 s2 [Ck.ov b2 [.int .i64 p0_0, .slice A0_1p p0_1.length c0_1p, .slice A0_2p p0_2.length c0_2p, .int .i64 p0_3] 31] := hH'
  clear hH' hG
  try dsimp only [putL, setL, evL, getL]
  refine HL_cons rfl ?_
  refine o_boxH hH rfl ?_
  intro b3 s3 hH' hG
  replace hH : Hp sb s F0 s3 [Ck.ov b2 [.int .i64 p0_0, .slice A0_1p p0_1.length c0_1p, .slice A0_2p p0_2.length c0_2p, .int .i64 p0_3] 31, Ck.ov b3 [.int .i64 p1_0, .slice A1_1p p1_1.length c1_1p, .slice A1_2p p1_2.length c1_2p, .int .i64 p1_3] 31] := hH'
  clear hH' hG
  try dsimp only [putL, setL, evL, getL]
  refine HL_cons rfl ?_
  refine o_assign ?_
  try dsimp only [putL, setL, evL, getL]
  refine HL_nil ?_
  refine hK1 _ _ ?_
  refine HT_seq_k ?_
  intro K4 hK4
  refine HT_seq_k ?_
  intro K5 hK5
  refine HT_region ?_
  refine HL_cons rfl ?_
  refine o_faddr' (ft := 3) (off := 0) rfl Try.underlying31 rfl tI3 (by decide) ?_
  try dsimp only [putL, setL, evL, getL]
  refine HL_cons rfl ?_
  refine o_load' rfl Try.underlying3 rfl (hH.hasv 0 rfl rfl) ?_
  try dsimp only [putL, setL, evL, getL]
  refine HL_cons rfl ?_
  refine o_faddr' (ft := 3) (off := 0) rfl Try.underlying31 rfl tI3 (by decide) ?_
  try dsimp only [putL, setL, evL, getL]
  refine HL_cons rfl ?_
  refine o_load' rfl Try.underlying3 rfl (hH.hasv 1 rfl rfl) ?_
  try dsimp only [putL, setL, evL, getL]
  refine HL_cons rfl ?_
  refine o_bin rfl rfl rfl ?_
  try dsimp only [putL, setL, evL, getL]
  refine HL_nil ?_
  refine hK5 _ _ ?_
  rcases Bool.eq_false_or_eq_true (p0_0 != p1_0) with hb6 | hb6
  · replace H := iteT hb6 H
    refine HT_true (congrArg Value.bool hb6) ?_
    refine HT_seq_k ?_
    intro K7 hK7
    refine HT_region ?_
    refine HL_cons rfl ?_
    refine o_assign ?_
    try dsimp only [putL, setL, evL, getL]
    refine HL_nil ?_
    refine hK7 _ _ ?_
    refine HT_ret ?_
    obtain rfl := Option.some.inj (show some _ = some r from H)
    exact hQr _ _ [.bool false] ⟨rfl, trivial⟩ ⟨rfl, hH.sel [] (by decide)⟩
  · replace H := iteF hb6 H
    refine HT_false (congrArg Value.bool hb6) ?_
    refine HT_skip ?_
    refine hK4 _ _ ?_
    refine HT_seq_k ?_
    intro K8 hK8
    refine HT_seq_k ?_
    intro K9 hK9
    refine HT_region ?_
    refine HL_cons rfl ?_
    refine o_faddr' (ft := 22) (off := 1) rfl Try.underlying31 rfl tI22 (by decide) ?_
    try dsimp only [putL, setL, evL, getL]
    refine HL_cons rfl ?_
    refine o_load' rfl Try.underlying22 rfl (hH.hasv 0 rfl rfl) ?_
    try dsimp only [putL, setL, evL, getL]
    refine HL_cons rfl ?_
    refine o_faddr' (ft := 22) (off := 1) rfl Try.underlying31 rfl tI22 (by decide) ?_
    try dsimp only [putL, setL, evL, getL]
    refine HL_cons rfl ?_
    refine o_load' rfl Try.underlying22 rfl (hH.hasv 1 rfl rfl) ?_
    try dsimp only [putL, setL, evL, getL]
    obtain ⟨u10, hu10, H⟩ := headE H
    refine HL_cons rfl ?_
    refine o_call (args := #[.slice A0_1p p0_1.length c0_1p, .slice A1_1p p1_1.length c1_1p]) Try.func18 rfl rfl rfl (laws_eqIntS.ok sb s3 no A0_1p c0_1p p0_1 A1_1p c1_1p p1_1 HRp0_1 HRp1_1 (Hp.own hH.bs) _ hu10) ?_
    rintro _ s10 ⟨rfl, hD⟩
    replace hH := hH.back0 hD (Up.refl _ _ _)
    clear hD
    dsimp only [addC, setC, rmC, selC, getC] at hH
    try dsimp only [putL, setL, evL, getL]
    refine HL_cons rfl ?_
    refine o_not rfl ?_
    try dsimp only [putL, setL, evL, getL]
    refine HL_nil ?_
    refine hK9 _ _ ?_
    rcases Bool.eq_false_or_eq_true (!u10) with hb11 | hb11
    · replace H := iteT hb11 H
      refine HT_true (congrArg Value.bool hb11) ?_
      refine HT_seq_k ?_
      intro K12 hK12
      refine HT_region ?_
      refine HL_cons rfl ?_
      refine o_assign ?_
      try dsimp only [putL, setL, evL, getL]
      refine HL_nil ?_
      refine hK12 _ _ ?_
      refine HT_ret ?_
      obtain rfl := Option.some.inj (show some _ = some r from H)
      exact hQr _ _ [.bool false] ⟨rfl, trivial⟩ ⟨rfl, hH.sel [] (by decide)⟩
    · replace H := iteF hb11 H
      refine HT_false (congrArg Value.bool hb11) ?_
      refine HT_skip ?_
      refine hK8 _ _ ?_
      refine HT_seq_k ?_
      intro K13 hK13
      refine HT_seq_k ?_
      intro K14 hK14
      refine HT_region ?_
      refine HL_cons rfl ?_
      refine o_faddr' (ft := 22) (off := 2) rfl Try.underlying31 rfl tI22 (by decide) ?_
      try dsimp only [putL, setL, evL, getL]
      refine HL_cons rfl ?_
      refine o_load' rfl Try.underlying22 rfl (hH.hasv 0 rfl rfl) ?_
      try dsimp only [putL, setL, evL, getL]
      refine HL_cons rfl ?_
      refine o_faddr' (ft := 22) (off := 2) rfl Try.underlying31 rfl tI22 (by decide) ?_
      try dsimp only [putL, setL, evL, getL]
      refine HL_cons rfl ?_
      refine o_load' rfl Try.underlying22 rfl (hH.hasv 1 rfl rfl) ?_
      try dsimp only [putL, setL, evL, getL]
      obtain ⟨u15, hu15, H⟩ := headE H
      refine HL_cons rfl ?_
      refine o_call (args := #[.slice A0_2p p0_2.length c0_2p, .slice A1_2p p1_2.length c1_2p]) Try.func18 rfl rfl rfl (laws_eqIntS.ok sb s10 no A0_2p c0_2p p0_2 A1_2p c1_2p p1_2 HRp0_2 HRp1_2 (Hp.own hH.bs) _ hu15) ?_
      rintro _ s15 ⟨rfl, hD⟩
      replace hH := hH.back0 hD (Up.refl _ _ _)
      clear hD
      dsimp only [addC, setC, rmC, selC, getC] at hH
      try dsimp only [putL, setL, evL, getL]
      refine HL_cons rfl ?_
      refine o_not rfl ?_
      try dsimp only [putL, setL, evL, getL]
      refine HL_nil ?_
      refine hK14 _ _ ?_
      rcases Bool.eq_false_or_eq_true (!u15) with hb16 | hb16
      · replace H := iteT hb16 H
        refine HT_true (congrArg Value.bool hb16) ?_
        refine HT_seq_k ?_
        intro K17 hK17
        refine HT_region ?_
        refine HL_cons rfl ?_
        refine o_assign ?_
        try dsimp only [putL, setL, evL, getL]
        refine HL_nil ?_
        refine hK17 _ _ ?_
        refine HT_ret ?_
        obtain rfl := Option.some.inj (show some _ = some r from H)
        exact hQr _ _ [.bool false] ⟨rfl, trivial⟩ ⟨rfl, hH.sel [] (by decide)⟩
      · replace H := iteF hb16 H
        refine HT_false (congrArg Value.bool hb16) ?_
        refine HT_skip ?_
        refine hK13 _ _ ?_
        refine HT_seq_k ?_
        intro K18 hK18
        refine HT_seq_k ?_
        intro K19 hK19
        refine HT_region ?_
        refine HL_cons rfl ?_
        refine o_faddr' (ft := 3) (off := 3) rfl Try.underlying31 rfl tI3 (by decide) ?_
        try dsimp only [putL, setL, evL, getL]
        refine HL_cons rfl ?_
        refine o_load' rfl Try.underlying3 rfl (hH.hasv 0 rfl rfl) ?_
        try dsimp only [putL, setL, evL, getL]
        refine HL_cons rfl ?_
        refine o_faddr' (ft := 3) (off := 3) rfl Try.underlying31 rfl tI3 (by decide) ?_
        try dsimp only [putL, setL, evL, getL]
        refine HL_cons rfl ?_
        refine o_load' rfl Try.underlying3 rfl (hH.hasv 1 rfl rfl) ?_
        try dsimp only [putL, setL, evL, getL]
        refine HL_cons rfl ?_
        refine o_bin rfl rfl rfl ?_
        try dsimp only [putL, setL, evL, getL]
        refine HL_nil ?_
        refine hK19 _ _ ?_
        rcases Bool.eq_false_or_eq_true (p0_3 != p1_3) with hb20 | hb20
        · replace H := iteT hb20 H
          refine HT_true (congrArg Value.bool hb20) ?_
          refine HT_seq_k ?_
          intro K21 hK21
          refine HT_region ?_
          refine HL_cons rfl ?_
          refine o_assign ?_
          try dsimp only [putL, setL, evL, getL]
          refine HL_nil ?_
          refine hK21 _ _ ?_
          refine HT_ret ?_
          obtain rfl := Option.some.inj (show some _ = some r from H)
          exact hQr _ _ [.bool false] ⟨rfl, trivial⟩ ⟨rfl, hH.sel [] (by decide)⟩
        · replace H := iteF hb20 H
          refine HT_false (congrArg Value.bool hb20) ?_
          refine HT_skip ?_
          refine hK18 _ _ ?_
          refine HT_seq_k ?_
          intro K22 hK22
          refine HT_region ?_
          refine HL_cons rfl ?_
          refine o_assign ?_
          try dsimp only [putL, setL, evL, getL]
          refine HL_nil ?_
          refine hK22 _ _ ?_
          refine HT_ret ?_
          obtain rfl := Option.some.inj (show some _ = some r from H)
          exact hQr _ _ [.bool true] ⟨rfl, trivial⟩ ⟨rfl, hH.sel [] (by decide)⟩
def laws_markIntS.l1 (p0 : List (Int)) : Nat → (List (Int)) → Int → Int → Option (Int × (List (Int)))
  | 0, _, _, _ => none
  | kf + 1, x42, x43, x44 => if (decide (x44 < (p0.length : Int))) = true then ((rd? x42 x44).bind fun u61 => (st? x42 x44 x43).bind fun x62 => laws_markIntS.l1 p0 kf x62 (IntKind.i64.wrap (x43 + 1)) (IntKind.i64.wrap (x44 + 1))) else (some (x43, x42))
def laws_markIntS.f (p0 : List (Int)) (p1 : Int) : Option (Int × (List (Int))) := (laws_markIntS.l1 p0 ((((p0.length : Int)) - (0)).toNat + 2) p0 p1 0).bind fun (o : Int × (List (Int))) => match o with | (x33, x34) => (some (x33, x34))
def laws_markIntS.post (sb s : St) (F0 : Fp) (A0p : Option Addr) (c0p : Nat) (p0 : List (Int)) (r : Int × (List (Int))) : Value → St → Prop := fun v s' => v = .int .i64 r.1 ∧ Hp sb s F0 s' [Ck.ol OI 3 A0p c0p r.2] ∧ r.2.length = p0.length
set_option maxRecDepth 100000 in
set_option maxHeartbeats 4000000 in
theorem laws_markIntS.ok (sb s : St) (F0 : Fp) (A0p : Option Addr) (c0p : Nat) (p0 : List (Int)) (p1 : Int) (hH : Hp sb s F0 s [Ck.ol OI 3 A0p c0p p0]) (r : Int × (List (Int))) (H : laws_markIntS.f p0 p1 = some r) : GCall Try.prog 19 #[.slice A0p p0.length c0p, .int .i64 p1] s (laws_markIntS.post sb s F0 A0p c0p p0 r) := by
  refine GCall_ofk [.tmp 4] [.slice A0p p0.length c0p, .int .i64 p1, undef, undef, undef, undef, undef, undef, undef, undef, undef, undef, undef, undef, undef, undef, undef, undef, undef] Try.func19 rfl rfl rfl ?_
  intro w Q hQr hQn hQp
  replace H := topE H
  unfold laws_markIntS.f at H
  refine HT_seq_k ?_
  intro K1 hK1
  refine HT_region ?_
  refine HL_cons rfl ?_
  refine o_assign ?_
  try dsimp only [putL, setL, evL, getL]
  refine HL_nil ?_
  refine hK1 _ _ ?_
  refine HT_seq_k ?_
  intro K2 hK2
  refine HT_seq_k ?_
  intro K3 hK3
  refine HT_region ?_
  refine HL_cons rfl ?_
  refine o_assign ?_
  try dsimp only [putL, setL, evL, getL]
  refine HL_nil ?_
  refine hK3 _ _ ?_
  refine joinH H fun G4 hG4 H => ?_
  refine HT_toK (fun l' s' => ∃ (x33 : Int) (x34 : List (Int)), G4 (x33, x34) = some r ∧ l' = [.slice A0p p0.length c0p, .int .i64 x33, undef, undef, .int .i64 0, getL l' 5, getL l' 6, getL l' 7, getL l' 8, getL l' 9, getL l' 10, getL l' 11, getL l' 12, getL l' 13, getL l' 14, getL l' 15, getL l' 16, getL l' 17, undef] ∧ Hp sb s F0 s' [Ck.ol OI 3 A0p c0p x34] ∧ x34.length = p0.length) ?_ ?_
  · intro K4 hK4
    refine HT_block ?_
    refine HT_loopK (fun kf l' s' => ∃ (x42 : List (Int)) (x43 : Int) (x44 : Int), (laws_markIntS.l1 p0 kf x42 x43 x44).bind G4 = some r ∧ l' = [.slice A0p p0.length c0p, .int .i64 x43, undef, undef, .int .i64 0, .int .i64 x44, getL l' 6, getL l' 7, getL l' 8, getL l' 9, getL l' 10, getL l' 11, getL l' 12, getL l' 13, getL l' 14, getL l' 15, getL l' 16, getL l' 17, undef] ∧ Hp sb s F0 s' [Ck.ol OI 3 A0p c0p x42] ∧ x42.length = p0.length) ((((p0.length : Int)) - (0)).toNat + 2) ⟨p0, p1, 0, H, rfl, hH, rfl⟩ ?_
    rintro kf l' s55 ⟨x42, x43, x44, H, hl, hH, hl42⟩ K55 hK55
    generalize getL l' 6 = j6, getL l' 7 = j7, getL l' 8 = j8, getL l' 9 = j9, getL l' 10 = j10, getL l' 11 = j11, getL l' 12 = j12, getL l' 13 = j13, getL l' 14 = j14, getL l' 15 = j15, getL l' 16 = j16, getL l' 17 = j17 at hl
    subst hl
    cases kf with
    | zero => simp [laws_markIntS.l1] at H
    | succ kf =>
      rw [laws_markIntS.l1] at H
      refine HT_seq_k ?_
      intro K56 hK56
      refine HT_seq_k ?_
      intro K57 hK57
      refine HT_region ?_
      refine HL_cons rfl ?_
      refine o_move ?_
      try dsimp only [putL, setL, evL, getL]
      refine HL_cons rfl ?_
      refine o_move ?_
      try dsimp only [putL, setL, evL, getL]
      refine HL_cons rfl ?_
      refine o_len rfl Try.underlying22 ?_
      try dsimp only [putL, setL, evL, getL]
      refine HL_cons rfl ?_
      refine o_bin rfl rfl rfl ?_
      try dsimp only [putL, setL, evL, getL]
      refine HL_nil ?_
      refine hK57 _ _ ?_
      rcases Bool.eq_false_or_eq_true (decide (x44 < (p0.length : Int))) with hb58 | hb58
      · replace H := iteT hb58 H
        refine HT_true (congrArg Value.bool hb58) ?_
        refine HT_skip ?_
        refine hK56 _ _ ?_
        refine HT_seq_k ?_
        intro K59 hK59
        refine HT_block ?_
        refine HT_seq_k ?_
        intro K60 hK60
        refine HT_region ?_
        refine HL_cons rfl ?_
        refine o_move ?_
        try dsimp only [putL, setL, evL, getL]
        refine HL_cons rfl ?_
        refine o_move ?_
        try dsimp only [putL, setL, evL, getL]
        refine HL_cons rfl ?_
        refine o_move ?_
        try dsimp only [putL, setL, evL, getL]
        obtain ⟨u61, hu61, H⟩ := headE H
        obtain ⟨b61, o61, cs61, hA61, hr61, hh61, hel61⟩ := hH.elo 0 rfl hu61
        obtain rfl := hr61
        refine HL_cons rfl ?_
        refine hel61 s55 (sliceLen hl42) rfl Try.underlying22 tI3 ?_
        try dsimp only [putL, setL, evL, getL]
        obtain ⟨x62, hx62, H⟩ := headE H
        refine HL_cons rfl ?_
        refine o_setF (vs := [.int .i64 x43]) (u := x43) hH 0 rfl rfl rfl rfl rfl tI3 hA61 hx62 (Ent.own (Ent.flat rfl)) ?_
        intro s62 hH'
        have hl62 := (st?_len hx62).trans hl42
        replace hH : Hp sb s F0 s62 [Ck.ol OI 3 A0p c0p x62] := hH'
        clear hH'
        try dsimp only [putL, setL, evL, getL]
        refine HL_nil ?_
        refine hK60 _ _ ?_
        refine HT_region ?_
        refine HL_cons rfl ?_
        refine o_move ?_
        try dsimp only [putL, setL, evL, getL]
        refine HL_cons rfl ?_
        refine o_bin rfl rfl rfl ?_
        try dsimp only [putL, setL, evL, getL]
        refine HL_cons rfl ?_
        refine o_assign ?_
        try dsimp only [putL, setL, evL, getL]
        refine HL_nil ?_
        refine hK59 _ _ ?_
        refine HT_region ?_
        refine HL_cons rfl ?_
        refine o_move ?_
        try dsimp only [putL, setL, evL, getL]
        refine HL_cons rfl ?_
        refine o_bin rfl rfl rfl ?_
        try dsimp only [putL, setL, evL, getL]
        refine HL_cons rfl ?_
        refine o_assign ?_
        try dsimp only [putL, setL, evL, getL]
        refine HL_nil ?_
        exact hK55 _ _ ⟨kf, Nat.lt_succ_self kf, x62, IntKind.i64.wrap (x43 + 1), IntKind.i64.wrap (x44 + 1), H, rfl, hH, hl62⟩
      · replace H := iteF hb58 H
        refine HT_false (congrArg Value.bool hb58) ?_
        refine HT_exit ?_
        exact hK4 _ _ ⟨x43, x42, H, rfl, hH, hl42⟩
  · rintro l' s63 ⟨x33, x34, H, hl, hH, hl34⟩
    generalize getL l' 5 = j5, getL l' 6 = j6, getL l' 7 = j7, getL l' 8 = j8, getL l' 9 = j9, getL l' 10 = j10, getL l' 11 = j11, getL l' 12 = j12, getL l' 13 = j13, getL l' 14 = j14, getL l' 15 = j15, getL l' 16 = j16, getL l' 17 = j17 at hl
    subst hl
    replace H := hG4 _ H
    try dsimp only at H
    refine hK2 _ _ ?_
    refine HT_seq_k ?_
    intro K64 hK64
    refine HT_region ?_
    refine HL_cons rfl ?_
    refine o_move ?_
    try dsimp only [putL, setL, evL, getL]
    refine HL_cons rfl ?_
    refine o_assign ?_
    try dsimp only [putL, setL, evL, getL]
    refine HL_nil ?_
    refine hK64 _ _ ?_
    refine HT_ret ?_
    obtain rfl := Option.some.inj (show some _ = some r from H)
    exact hQr _ _ [.int .i64 x33] ⟨rfl, trivial⟩ ⟨rfl, hH, hl34⟩
def laws_markBuf.f (p0_0 : Int) (p0_1 : List (Int)) (p0_2 : List (Int)) (p0_3 : Int) (p1 : Int) : Option (Int × (List (Int)) × (List (Int))) := (laws_markIntS.f p0_1 p1).bind fun u4 => (laws_markIntS.f p0_2 u4.1).bind fun u7 => some (u7.1, u4.2, u7.2)
def laws_markBuf.post (sb s : St) (F0 : Fp) (A0_1p : Option Addr) (c0_1p : Nat) (p0_1 : List (Int)) (A0_2p : Option Addr) (c0_2p : Nat) (p0_2 : List (Int)) (r : Int × (List (Int)) × (List (Int))) : Value → St → Prop := fun v s' => v = .int .i64 r.1 ∧ Hp sb s F0 s' [Ck.ol OI 3 A0_1p c0_1p r.2.1, Ck.ol OI 3 A0_2p c0_2p r.2.2] ∧ r.2.1.length = p0_1.length ∧ r.2.2.length = p0_2.length
set_option maxRecDepth 100000 in
set_option maxHeartbeats 4000000 in
theorem laws_markBuf.ok (sb s : St) (F0 : Fp) (p0_0 : Int) (A0_1p : Option Addr) (c0_1p : Nat) (p0_1 : List (Int)) (A0_2p : Option Addr) (c0_2p : Nat) (p0_2 : List (Int)) (p0_3 : Int) (p1 : Int) (hH : Hp sb s F0 s [Ck.ol OI 3 A0_1p c0_1p p0_1, Ck.ol OI 3 A0_2p c0_2p p0_2]) (r : Int × (List (Int)) × (List (Int))) (H : laws_markBuf.f p0_0 p0_1 p0_2 p0_3 p1 = some r) : GCall Try.prog 26 #[.agg #[.int .i64 p0_0, .slice A0_1p p0_1.length c0_1p, .slice A0_2p p0_2.length c0_2p, .int .i64 p0_3], .int .i64 p1] s (laws_markBuf.post sb s F0 A0_1p c0_1p p0_1 A0_2p c0_2p p0_2 r) := by
  refine GCall_ofk [.tmp 4] [.agg #[.int .i64 p0_0, .slice A0_1p p0_1.length c0_1p, .slice A0_2p p0_2.length c0_2p, .int .i64 p0_3], .int .i64 p1, undef, undef, undef, undef, undef, undef, undef, undef, undef, undef, undef, undef] Try.func26 rfl rfl rfl ?_
  intro w Q hQr hQn hQp
  replace H := topE H
  unfold laws_markBuf.f at H
  refine HT_seq_k ?_
  intro K1 hK1
  refine HT_region ?_
  refine HL_cons rfl ?_
  refine o_boxH hH rfl ?_
  intro b2 s2 hH' hG
  replace hH : Hp sb s F0 s2 [Ck.ol OI 3 A0_1p c0_1p p0_1, Ck.ol OI 3 A0_2p c0_2p p0_2, Ck.ov b2 [.int .i64 p0_0, .slice A0_1p p0_1.length c0_1p, .slice A0_2p p0_2.length c0_2p, .int .i64 p0_3] 31] := hH'
  clear hH' hG
  try dsimp only [putL, setL, evL, getL]
  refine HL_cons rfl ?_
  refine o_assign ?_
  try dsimp only [putL, setL, evL, getL]
  refine HL_nil ?_
  refine hK1 _ _ ?_
  refine HT_seq_k ?_
  intro K3 hK3
  refine HT_region ?_
  refine HL_cons rfl ?_
  refine o_faddr' (ft := 22) (off := 1) rfl Try.underlying31 rfl tI22 (by decide) ?_
  try dsimp only [putL, setL, evL, getL]
  refine HL_cons rfl ?_
  refine o_load' rfl Try.underlying22 rfl (hH.hasv 2 rfl rfl) ?_
  try dsimp only [putL, setL, evL, getL]
  refine HL_cons rfl ?_
  refine o_move ?_
  try dsimp only [putL, setL, evL, getL]
  obtain ⟨u4, hu4, H⟩ := headE H
  obtain ⟨F1, hA, hB⟩ := hH.take [0] (by decide)
  dsimp only [addC, setC, rmC, selC, getC] at hA
  refine HL_cons rfl ?_
  refine o_call (args := #[.slice A0_1p p0_1.length c0_1p, .int .i64 p1]) Try.func19 rfl rfl rfl (laws_markIntS.ok sb s2 F1 A0_1p c0_1p p0_1 p1 hA _ hu4) ?_
  rintro _ s4 ⟨rfl, hD, hl5⟩
  replace hH := hB _ _ _ (Up.refl _ _ _) hD
  clear hD hA hB
  dsimp only [addC, setC, rmC, selC, getC] at hH
  try dsimp only [putL, setL, evL, getL]
  refine HL_cons rfl ?_
  refine o_assign ?_
  try dsimp only [putL, setL, evL, getL]
  refine HL_nil ?_
  refine hK3 _ _ ?_
  refine HT_seq_k ?_
  intro K6 hK6
  refine HT_region ?_
  refine HL_cons rfl ?_
  refine o_faddr' (ft := 22) (off := 2) rfl Try.underlying31 rfl tI22 (by decide) ?_
  try dsimp only [putL, setL, evL, getL]
  refine HL_cons rfl ?_
  refine o_load' rfl Try.underlying22 rfl (hH.hasv 2 rfl rfl) ?_
  try dsimp only [putL, setL, evL, getL]
  refine HL_cons rfl ?_
  refine o_move ?_
  try dsimp only [putL, setL, evL, getL]
  obtain ⟨u7, hu7, H⟩ := headE H
  obtain ⟨F1, hA, hB⟩ := hH.take [1] (by decide)
  dsimp only [addC, setC, rmC, selC, getC] at hA
  refine HL_cons rfl ?_
  refine o_call (args := #[.slice A0_2p p0_2.length c0_2p, .int .i64 u4.1]) Try.func19 rfl rfl rfl (laws_markIntS.ok sb s4 F1 A0_2p c0_2p p0_2 u4.1 hA _ hu7) ?_
  rintro _ s7 ⟨rfl, hD, hl8⟩
  replace hH := hB _ _ _ (Up.refl _ _ _) hD
  clear hD hA hB
  dsimp only [addC, setC, rmC, selC, getC] at hH
  try dsimp only [putL, setL, evL, getL]
  refine HL_cons rfl ?_
  refine o_assign ?_
  try dsimp only [putL, setL, evL, getL]
  refine HL_nil ?_
  refine hK6 _ _ ?_
  refine HT_seq_k ?_
  intro K9 hK9
  refine HT_region ?_
  refine HL_cons rfl ?_
  refine o_move ?_
  try dsimp only [putL, setL, evL, getL]
  refine HL_cons rfl ?_
  refine o_assign ?_
  try dsimp only [putL, setL, evL, getL]
  refine HL_nil ?_
  refine hK9 _ _ ?_
  refine HT_ret ?_
  obtain rfl := Option.some.inj (show some _ = some r from H)
  exact hQr _ _ [.int .i64 u7.1] ⟨rfl, trivial⟩ ⟨rfl, hH.sel [3, 4] (by decide), hl5, hl8⟩
def laws_heldIntS.l1 (p0 : List (Int)) : Nat → Int → Int → Option (Lo Int Int)
  | 0, _, _ => none
  | kf + 1, x47, x48 => if (decide (x48 < (p0.length : Int))) = true then ((rd? p0 x48).bind fun u67 => if (u67 != x47) = true then ((some (-1)).bind fun z => some (Lo.ret z)) else (laws_heldIntS.l1 p0 kf (IntKind.i64.wrap (x47 + 1)) (IntKind.i64.wrap (x48 + 1)))) else (some (Lo.go x47))
def laws_heldIntS.f (p0 : List (Int)) (p1 : Int) : Option Int := (laws_heldIntS.l1 p0 ((((p0.length : Int)) - (0)).toNat + 2) p1 0).bind fun (o : Lo Int Int) => match o with | .go x37 => (some x37) | .ret z => some z
def laws_heldIntS.post (sb s : St) (F0 : Fp) (r : Int) : Value → St → Prop := fun v s' => v = .int .i64 r ∧ Hp sb s F0 s' []
set_option maxRecDepth 100000 in
set_option maxHeartbeats 4000000 in
theorem laws_heldIntS.ok (sb s : St) (F0 : Fp) (A0p : Option Addr) (c0p : Nat) (p0 : List (Int)) (p1 : Int) (HRp0 : Rd KI sb A0p c0p p0) (hH : Hp sb s F0 s []) (r : Int) (H : laws_heldIntS.f p0 p1 = some r) : GCall Try.prog 20 #[.slice A0p p0.length c0p, .int .i64 p1] s (laws_heldIntS.post sb s F0 r) := by
  refine GCall_ofk [.tmp 4] [.slice A0p p0.length c0p, .int .i64 p1, undef, undef, undef, undef, undef, undef, undef, undef, undef, undef, undef, undef, undef, undef, undef, undef, undef, undef, undef] Try.func20 rfl rfl rfl ?_
  intro w Q hQr hQn hQp
  replace H := topE H
  unfold laws_heldIntS.f at H
  refine HT_seq_k ?_
  intro K1 hK1
  refine HT_region ?_
  refine HL_cons rfl ?_
  refine o_assign ?_
  try dsimp only [putL, setL, evL, getL]
  refine HL_nil ?_
  refine hK1 _ _ ?_
  refine HT_seq_k ?_
  intro K2 hK2
  refine HT_seq_k ?_
  intro K3 hK3
  refine HT_region ?_
  refine HL_cons rfl ?_
  refine o_assign ?_
  try dsimp only [putL, setL, evL, getL]
  refine HL_nil ?_
  refine hK3 _ _ ?_
  refine joinH H fun G4 hG4 H => ?_
  refine HT_toK (fun l' s' => ∃ (x37 : Int), G4 (.go x37) = some r ∧ l' = [.slice A0p p0.length c0p, .int .i64 x37, undef, undef, getL l' 4, getL l' 5, getL l' 6, getL l' 7, getL l' 8, getL l' 9, getL l' 10, getL l' 11, getL l' 12, getL l' 13, getL l' 14, getL l' 15, getL l' 16, getL l' 17, getL l' 18, getL l' 19, undef] ∧ Hp sb s F0 s' []) ?_ ?_
  · intro K4 hK4
    refine HT_block ?_
    refine HT_loopK (fun kf l' s' => ∃ (x47 : Int) (x48 : Int), (laws_heldIntS.l1 p0 kf x47 x48).bind G4 = some r ∧ l' = [.slice A0p p0.length c0p, .int .i64 x47, undef, undef, getL l' 4, .int .i64 x48, getL l' 6, getL l' 7, getL l' 8, getL l' 9, getL l' 10, getL l' 11, getL l' 12, getL l' 13, getL l' 14, getL l' 15, getL l' 16, getL l' 17, getL l' 18, getL l' 19, undef] ∧ Hp sb s F0 s' []) ((((p0.length : Int)) - (0)).toNat + 2) ⟨p1, 0, H, rfl, hH⟩ ?_
    rintro kf l' s60 ⟨x47, x48, H, hl, hH⟩ K60 hK60
    generalize getL l' 4 = j4, getL l' 6 = j6, getL l' 7 = j7, getL l' 8 = j8, getL l' 9 = j9, getL l' 10 = j10, getL l' 11 = j11, getL l' 12 = j12, getL l' 13 = j13, getL l' 14 = j14, getL l' 15 = j15, getL l' 16 = j16, getL l' 17 = j17, getL l' 18 = j18, getL l' 19 = j19 at hl
    subst hl
    cases kf with
    | zero => simp [laws_heldIntS.l1] at H
    | succ kf =>
      rw [laws_heldIntS.l1] at H
      refine HT_seq_k ?_
      intro K61 hK61
      refine HT_seq_k ?_
      intro K62 hK62
      refine HT_region ?_
      refine HL_cons rfl ?_
      refine o_move ?_
      try dsimp only [putL, setL, evL, getL]
      refine HL_cons rfl ?_
      refine o_move ?_
      try dsimp only [putL, setL, evL, getL]
      refine HL_cons rfl ?_
      refine o_len rfl Try.underlying22 ?_
      try dsimp only [putL, setL, evL, getL]
      refine HL_cons rfl ?_
      refine o_bin rfl rfl rfl ?_
      try dsimp only [putL, setL, evL, getL]
      refine HL_nil ?_
      refine hK62 _ _ ?_
      rcases Bool.eq_false_or_eq_true (decide (x48 < (p0.length : Int))) with hb63 | hb63
      · replace H := iteT hb63 H
        refine HT_true (congrArg Value.bool hb63) ?_
        refine HT_skip ?_
        refine hK61 _ _ ?_
        refine HT_seq_k ?_
        intro K64 hK64
        refine HT_block ?_
        refine HT_seq_k ?_
        intro K65 hK65
        refine HT_seq_k ?_
        intro K66 hK66
        refine HT_region ?_
        refine HL_cons rfl ?_
        refine o_move ?_
        try dsimp only [putL, setL, evL, getL]
        refine HL_cons rfl ?_
        refine o_move ?_
        try dsimp only [putL, setL, evL, getL]
        obtain ⟨u67, hu67, H⟩ := headE H
        obtain ⟨b67, o67, cs67, hr67, hh67, hel67⟩ := Rd.elb HRp0 hu67
        obtain rfl := hr67
        refine HL_cons rfl ?_
        refine hel67 s60 rfl rfl Try.underlying22 tI3 ?_
        try dsimp only [putL, setL, evL, getL]
        refine HL_cons rfl ?_
        refine o_load' rfl Try.underlying3 rfl ((hh67 hH.bs.mono) 0 _ rfl) ?_
        try dsimp only [putL, setL, evL, getL]
        refine HL_cons rfl ?_
        refine o_move ?_
        try dsimp only [putL, setL, evL, getL]
        refine HL_cons rfl ?_
        refine o_bin rfl rfl rfl ?_
        try dsimp only [putL, setL, evL, getL]
        refine HL_nil ?_
        refine hK66 _ _ ?_
        rcases Bool.eq_false_or_eq_true (u67 != x47) with hb68 | hb68
        · replace H := iteT hb68 H
          refine HT_true (congrArg Value.bool hb68) ?_
          refine HT_seq_k ?_
          intro K69 hK69
          refine HT_region ?_
          refine HL_cons rfl ?_
          refine o_assign ?_
          try dsimp only [putL, setL, evL, getL]
          refine HL_nil ?_
          refine hK69 _ _ ?_
          refine HT_ret ?_
          replace H := escH (fun z hz => hG4 _ hz) H
          obtain rfl := Option.some.inj (show some _ = some r from H)
          exact hQr _ _ [.int .i64 (-1)] ⟨rfl, trivial⟩ ⟨rfl, hH⟩
        · replace H := iteF hb68 H
          refine HT_false (congrArg Value.bool hb68) ?_
          refine HT_skip ?_
          refine hK65 _ _ ?_
          refine HT_region ?_
          refine HL_cons rfl ?_
          refine o_move ?_
          try dsimp only [putL, setL, evL, getL]
          refine HL_cons rfl ?_
          refine o_bin rfl rfl rfl ?_
          try dsimp only [putL, setL, evL, getL]
          refine HL_cons rfl ?_
          refine o_assign ?_
          try dsimp only [putL, setL, evL, getL]
          refine HL_nil ?_
          refine hK64 _ _ ?_
          refine HT_region ?_
          refine HL_cons rfl ?_
          refine o_move ?_
          try dsimp only [putL, setL, evL, getL]
          refine HL_cons rfl ?_
          refine o_bin rfl rfl rfl ?_
          try dsimp only [putL, setL, evL, getL]
          refine HL_cons rfl ?_
          refine o_assign ?_
          try dsimp only [putL, setL, evL, getL]
          refine HL_nil ?_
          exact hK60 _ _ ⟨kf, Nat.lt_succ_self kf, IntKind.i64.wrap (x47 + 1), IntKind.i64.wrap (x48 + 1), H, rfl, hH⟩
      · replace H := iteF hb63 H
        refine HT_false (congrArg Value.bool hb63) ?_
        refine HT_exit ?_
        exact hK4 _ _ ⟨x47, H, rfl, hH⟩
  · rintro l' s70 ⟨x37, H, hl, hH⟩
    generalize getL l' 4 = j4, getL l' 5 = j5, getL l' 6 = j6, getL l' 7 = j7, getL l' 8 = j8, getL l' 9 = j9, getL l' 10 = j10, getL l' 11 = j11, getL l' 12 = j12, getL l' 13 = j13, getL l' 14 = j14, getL l' 15 = j15, getL l' 16 = j16, getL l' 17 = j17, getL l' 18 = j18, getL l' 19 = j19 at hl
    subst hl
    replace H := hG4 _ H
    try dsimp only at H
    refine hK2 _ _ ?_
    refine HT_seq_k ?_
    intro K71 hK71
    refine HT_region ?_
    refine HL_cons rfl ?_
    refine o_move ?_
    try dsimp only [putL, setL, evL, getL]
    refine HL_cons rfl ?_
    refine o_assign ?_
    try dsimp only [putL, setL, evL, getL]
    refine HL_nil ?_
    refine hK71 _ _ ?_
    refine HT_ret ?_
    obtain rfl := Option.some.inj (show some _ = some r from H)
    exact hQr _ _ [.int .i64 x37] ⟨rfl, trivial⟩ ⟨rfl, hH⟩
def laws_heldBuf.f (p0_0 : Int) (p0_1 : List (Int)) (p0_2 : List (Int)) (p0_3 : Int) (p1 : Int) : Option Int := (laws_heldIntS.f p0_1 p1).bind fun u4 => if (decide (u4 < 0)) = true then (some (-1)) else ((laws_heldIntS.f p0_2 u4).bind fun u10 => if (decide (u10 < 0)) = true then (some (-1)) else (some u10))
def laws_heldBuf.post (sb s : St) (F0 : Fp) (r : Int) : Value → St → Prop := fun v s' => v = .int .i64 r ∧ Hp sb s F0 s' []
set_option maxRecDepth 100000 in
set_option maxHeartbeats 4000000 in
theorem laws_heldBuf.ok (sb s : St) (F0 : Fp) (p0_0 : Int) (A0_1p : Option Addr) (c0_1p : Nat) (p0_1 : List (Int)) (A0_2p : Option Addr) (c0_2p : Nat) (p0_2 : List (Int)) (p0_3 : Int) (p1 : Int) (HRp0_1 : Rd KI sb A0_1p c0_1p p0_1) (HRp0_2 : Rd KI sb A0_2p c0_2p p0_2) (hH : Hp sb s F0 s []) (r : Int) (H : laws_heldBuf.f p0_0 p0_1 p0_2 p0_3 p1 = some r) : GCall Try.prog 27 #[.agg #[.int .i64 p0_0, .slice A0_1p p0_1.length c0_1p, .slice A0_2p p0_2.length c0_2p, .int .i64 p0_3], .int .i64 p1] s (laws_heldBuf.post sb s F0 r) := by
  refine GCall_ofk [.tmp 4] [.agg #[.int .i64 p0_0, .slice A0_1p p0_1.length c0_1p, .slice A0_2p p0_2.length c0_2p, .int .i64 p0_3], .int .i64 p1, undef, undef, undef, undef, undef, undef, undef, undef, undef, undef, undef, undef, undef, undef, undef, undef] Try.func27 rfl rfl rfl ?_
  intro w Q hQr hQn hQp
  replace H := topE H
  unfold laws_heldBuf.f at H
  refine HT_seq_k ?_
  intro K1 hK1
  refine HT_region ?_
  refine HL_cons rfl ?_
  refine o_boxH hH rfl ?_
  intro b2 s2 hH' hG
  replace hH : Hp sb s F0 s2 [Ck.ov b2 [.int .i64 p0_0, .slice A0_1p p0_1.length c0_1p, .slice A0_2p p0_2.length c0_2p, .int .i64 p0_3] 31] := hH'
  clear hH' hG
  try dsimp only [putL, setL, evL, getL]
  refine HL_cons rfl ?_
  refine o_assign ?_
  try dsimp only [putL, setL, evL, getL]
  refine HL_nil ?_
  refine hK1 _ _ ?_
  refine HT_seq_k ?_
  intro K3 hK3
  refine HT_region ?_
  refine HL_cons rfl ?_
  refine o_faddr' (ft := 22) (off := 1) rfl Try.underlying31 rfl tI22 (by decide) ?_
  try dsimp only [putL, setL, evL, getL]
  refine HL_cons rfl ?_
  refine o_load' rfl Try.underlying22 rfl (hH.hasv 0 rfl rfl) ?_
  try dsimp only [putL, setL, evL, getL]
  refine HL_cons rfl ?_
  refine o_move ?_
  try dsimp only [putL, setL, evL, getL]
  obtain ⟨u4, hu4, H⟩ := headE H
  refine HL_cons rfl ?_
  refine o_call (args := #[.slice A0_1p p0_1.length c0_1p, .int .i64 p1]) Try.func20 rfl rfl rfl (laws_heldIntS.ok sb s2 no A0_1p c0_1p p0_1 p1 HRp0_1 (Hp.own hH.bs) _ hu4) ?_
  rintro _ s4 ⟨rfl, hD⟩
  replace hH := hH.back0 hD (Up.refl _ _ _)
  clear hD
  dsimp only [addC, setC, rmC, selC, getC] at hH
  try dsimp only [putL, setL, evL, getL]
  refine HL_cons rfl ?_
  refine o_assign ?_
  try dsimp only [putL, setL, evL, getL]
  refine HL_nil ?_
  refine hK3 _ _ ?_
  refine HT_seq_k ?_
  intro K5 hK5
  refine HT_seq_k ?_
  intro K6 hK6
  refine HT_region ?_
  refine HL_cons rfl ?_
  refine o_move ?_
  try dsimp only [putL, setL, evL, getL]
  refine HL_cons rfl ?_
  refine o_bin rfl rfl rfl ?_
  try dsimp only [putL, setL, evL, getL]
  refine HL_nil ?_
  refine hK6 _ _ ?_
  rcases Bool.eq_false_or_eq_true (decide (u4 < 0)) with hb7 | hb7
  · replace H := iteT hb7 H
    refine HT_true (congrArg Value.bool hb7) ?_
    refine HT_seq_k ?_
    intro K8 hK8
    refine HT_region ?_
    refine HL_cons rfl ?_
    refine o_assign ?_
    try dsimp only [putL, setL, evL, getL]
    refine HL_nil ?_
    refine hK8 _ _ ?_
    refine HT_ret ?_
    obtain rfl := Option.some.inj (show some _ = some r from H)
    exact hQr _ _ [.int .i64 (-1)] ⟨rfl, trivial⟩ ⟨rfl, hH.sel [] (by decide)⟩
  · replace H := iteF hb7 H
    refine HT_false (congrArg Value.bool hb7) ?_
    refine HT_skip ?_
    refine hK5 _ _ ?_
    refine HT_seq_k ?_
    intro K9 hK9
    refine HT_region ?_
    refine HL_cons rfl ?_
    refine o_faddr' (ft := 22) (off := 2) rfl Try.underlying31 rfl tI22 (by decide) ?_
    try dsimp only [putL, setL, evL, getL]
    refine HL_cons rfl ?_
    refine o_load' rfl Try.underlying22 rfl (hH.hasv 0 rfl rfl) ?_
    try dsimp only [putL, setL, evL, getL]
    refine HL_cons rfl ?_
    refine o_move ?_
    try dsimp only [putL, setL, evL, getL]
    obtain ⟨u10, hu10, H⟩ := headE H
    refine HL_cons rfl ?_
    refine o_call (args := #[.slice A0_2p p0_2.length c0_2p, .int .i64 u4]) Try.func20 rfl rfl rfl (laws_heldIntS.ok sb s4 no A0_2p c0_2p p0_2 u4 HRp0_2 (Hp.own hH.bs) _ hu10) ?_
    rintro _ s10 ⟨rfl, hD⟩
    replace hH := hH.back0 hD (Up.refl _ _ _)
    clear hD
    dsimp only [addC, setC, rmC, selC, getC] at hH
    try dsimp only [putL, setL, evL, getL]
    refine HL_cons rfl ?_
    refine o_assign ?_
    try dsimp only [putL, setL, evL, getL]
    refine HL_nil ?_
    refine hK9 _ _ ?_
    refine HT_seq_k ?_
    intro K11 hK11
    refine HT_seq_k ?_
    intro K12 hK12
    refine HT_region ?_
    refine HL_cons rfl ?_
    refine o_move ?_
    try dsimp only [putL, setL, evL, getL]
    refine HL_cons rfl ?_
    refine o_bin rfl rfl rfl ?_
    try dsimp only [putL, setL, evL, getL]
    refine HL_nil ?_
    refine hK12 _ _ ?_
    rcases Bool.eq_false_or_eq_true (decide (u10 < 0)) with hb13 | hb13
    · replace H := iteT hb13 H
      refine HT_true (congrArg Value.bool hb13) ?_
      refine HT_seq_k ?_
      intro K14 hK14
      refine HT_region ?_
      refine HL_cons rfl ?_
      refine o_assign ?_
      try dsimp only [putL, setL, evL, getL]
      refine HL_nil ?_
      refine hK14 _ _ ?_
      refine HT_ret ?_
      obtain rfl := Option.some.inj (show some _ = some r from H)
      exact hQr _ _ [.int .i64 (-1)] ⟨rfl, trivial⟩ ⟨rfl, hH.sel [] (by decide)⟩
    · replace H := iteF hb13 H
      refine HT_false (congrArg Value.bool hb13) ?_
      refine HT_skip ?_
      refine hK11 _ _ ?_
      refine HT_seq_k ?_
      intro K15 hK15
      refine HT_region ?_
      refine HL_cons rfl ?_
      refine o_move ?_
      try dsimp only [putL, setL, evL, getL]
      refine HL_cons rfl ?_
      refine o_assign ?_
      try dsimp only [putL, setL, evL, getL]
      refine HL_nil ?_
      refine hK15 _ _ ?_
      refine HT_ret ?_
      obtain rfl := Option.some.inj (show some _ = some r from H)
      exact hQr _ _ [.int .i64 u10] ⟨rfl, trivial⟩ ⟨rfl, hH.sel [] (by decide)⟩
def laws_FnExactTakeBuf.f (p0_0 : Int) (p0_1 : List (Int)) (p0_2 : List (Int)) (p0_3 : Int) (p1 : Int) : Option Bool := (laws_szBuf.f p0_0 p0_1 p0_2 p0_3 1048576).bind fun u5 => if (decide (u5 < 0)) = true then (some true) else ((laws_toBuf.f p0_0 p0_1 p0_2 p0_3).bind fun u11 => (spec_TakeBuf.f u11.1 u11.2.1 u11.2.2.1 u11.2.2.2 p1).bind fun u14 => (laws_toBuf.f p0_0 p0_1 p0_2 p0_3).bind fun u21 => (impl_TakeBuf.f u21.1 u21.2.1 u21.2.2.1 u21.2.2.2 p1).bind fun u27 => ((laws_eqBuf.f u27.1 u27.2.1 u27.2.2.1 u27.2.2.2.1 u14.1 u14.2.1 u14.2.2.1 u14.2.2.2.1).bind fun u54 => if (!u54) = true then (some true) else ((laws_eqIntS.f u27.2.2.2.2.1 u14.2.2.2.2.1).bind fun u56 => if (!u56) = true then (some true) else (some (u27.2.2.2.2.2 != u14.2.2.2.2.2)))).bind fun (o : Bool) => match o with | x53 => (if x53 = true then (some false) else ((laws_toBuf.f p0_0 p0_1 p0_2 p0_3).bind fun u63 => (laws_eqBuf.f u21.1 u21.2.1 u21.2.2.1 u21.2.2.2 u63.1 u63.2.1 u63.2.2.1 u63.2.2.2).bind fun u66 => if (!u66) = true then (some false) else ((laws_markBuf.f u21.1 u21.2.1 u21.2.2.1 u21.2.2.2 1).bind fun u71 => (if (decide (u71.1 < 0)) = true then (some true) else ((laws_eqBuf.f u27.1 u27.2.1 u27.2.2.1 u27.2.2.2.1 u14.1 u14.2.1 u14.2.2.1 u14.2.2.2.1).bind fun u99 => if (!u99) = true then (some true) else ((laws_eqIntS.f u27.2.2.2.2.1 u14.2.2.2.2.1).bind fun u101 => if (!u101) = true then (some true) else (some (u27.2.2.2.2.2 != u14.2.2.2.2.2))))).bind fun (o : Bool) => match o with | x97 => (if x97 = true then (some false) else ((laws_markBuf.f u27.1 u27.2.1 u27.2.2.1 u27.2.2.2.1 1).bind fun u108 => (laws_markIntS.f u27.2.2.2.2.1 u108.1).bind fun u112 => (laws_heldBuf.f u27.1 u108.2.1 u108.2.2 u27.2.2.2.1 1).bind fun u116 => if (decide (u116 < 0)) = true then (some false) else ((laws_heldIntS.f u112.2 u116).bind fun u122 => if (decide (u122 < 0)) = true then (some false) else (if (u122 != u112.1) = true then (some false) else ((laws_toBuf.f p0_0 p0_1 p0_2 p0_3).bind fun u132 => (impl_TakeBuf.f u132.1 u132.2.1 u132.2.2.1 u132.2.2.2 p1).bind fun u135 => ((laws_eqBuf.f u135.1 u135.2.1 u135.2.2.1 u135.2.2.2.1 u14.1 u14.2.1 u14.2.2.1 u14.2.2.2.1).bind fun u162 => if (!u162) = true then (some true) else ((laws_eqIntS.f u135.2.2.2.2.1 u14.2.2.2.2.1).bind fun u164 => if (!u164) = true then (some true) else (some (u135.2.2.2.2.2 != u14.2.2.2.2.2)))).bind fun (o : Bool) => match o with | x161 => (if x161 = true then (some false) else ((laws_heldBuf.f u27.1 u108.2.1 u108.2.2 u27.2.2.2.1 1).bind fun u171 => if (decide (u171 < 0)) = true then (some false) else ((laws_heldIntS.f u112.2 u171).bind fun u177 => if (decide (u177 < 0)) = true then (some false) else (if (u177 != u112.1) = true then (some false) else (some true))))))))))))))
def laws_FnExactTakeBuf.post (sb s : St) (F0 : Fp) (r : Bool) : Value → St → Prop := fun v s' => v = .bool r ∧ Hp sb s F0 s' []
set_option maxRecDepth 100000 in
set_option maxHeartbeats 4000000 in
theorem laws_FnExactTakeBuf.ok (sb s : St) (F0 : Fp) (p0_0 : Int) (A0_1p : Option Addr) (c0_1p : Nat) (p0_1 : List (Int)) (A0_2p : Option Addr) (c0_2p : Nat) (p0_2 : List (Int)) (p0_3 : Int) (p1 : Int) (HRp0_1 : Rd KI sb A0_1p c0_1p p0_1) (HRp0_2 : Rd KI sb A0_2p c0_2p p0_2) (hH : Hp sb s F0 s []) (r : Bool) (H : laws_FnExactTakeBuf.f p0_0 p0_1 p0_2 p0_3 p1 = some r) : GCall Try.prog 4 #[.agg #[.int .i64 p0_0, .slice A0_1p p0_1.length c0_1p, .slice A0_2p p0_2.length c0_2p, .int .i64 p0_3], .int .i64 p1] s (laws_FnExactTakeBuf.post sb s F0 r) := by
  refine GCall_ofk [.tmp 4] [.agg #[.int .i64 p0_0, .slice A0_1p p0_1.length c0_1p, .slice A0_2p p0_2.length c0_2p, .int .i64 p0_3], .int .i64 p1, undef, undef, undef, undef, undef, undef, undef, undef, undef, undef, undef, undef, undef, undef, undef, undef, undef, undef, undef, undef, undef, undef, undef, undef, undef, undef, undef, undef, undef, undef, undef, undef, undef, undef, undef, undef, undef, undef, undef, undef, undef, undef, undef, undef, undef, undef, undef, undef, undef, undef, undef, undef, undef, undef, undef, undef, undef, undef, undef, undef, undef, undef, undef, undef, undef, undef, undef, undef, undef, undef, undef, undef, undef, undef, undef, undef, undef, undef, undef, undef, undef, undef, undef, undef, undef, undef, undef, undef, undef, undef, undef, undef, undef, undef, undef, undef, undef, undef, undef, undef, undef, undef, undef, undef, undef, undef, undef, undef, undef, undef, undef, undef, undef, undef, undef, undef, undef, undef, undef, undef, undef, undef, undef, undef, undef, undef, undef, undef, undef, undef, undef, undef, undef, undef, undef, undef] Try.func4 rfl rfl rfl ?_
  intro w Q hQr hQn hQp
  replace H := topE H
  unfold laws_FnExactTakeBuf.f at H
  refine HT_seq_k ?_
  intro K1 hK1
  refine HT_region ?_
  refine HL_cons rfl ?_
  refine o_boxH hH rfl ?_
  intro b2 s2 hH' hG
  replace hH : Hp sb s F0 s2 [Ck.ov b2 [.int .i64 p0_0, .slice A0_1p p0_1.length c0_1p, .slice A0_2p p0_2.length c0_2p, .int .i64 p0_3] 29] := hH'
  clear hH' hG
  try dsimp only [putL, setL, evL, getL]
  refine HL_cons rfl ?_
  refine o_assign ?_
  try dsimp only [putL, setL, evL, getL]
  refine HL_nil ?_
  refine hK1 _ _ ?_
  refine HT_seq_k ?_
  intro K3 hK3
  refine HT_region ?_
  refine HL_cons rfl ?_
  refine o_assign ?_
  try dsimp only [putL, setL, evL, getL]
  refine HL_nil ?_
  refine hK3 _ _ ?_
  refine HT_seq_k ?_
  intro K4 hK4
  refine HT_region ?_
  refine HL_cons rfl ?_
  refine o_loads' [.int .i64 p0_0, .slice A0_1p p0_1.length c0_1p, .slice A0_2p p0_2.length c0_2p, .int .i64 p0_3] rfl Try.underlying29 rfl tI29 rfl (hH.partv 0 rfl (0) [.int .i64 p0_0, .slice A0_1p p0_1.length c0_1p, .slice A0_2p p0_2.length c0_2p, .int .i64 p0_3] rfl) ?_
  try dsimp only [putL, setL, evL, getL]
  refine HL_cons rfl ?_
  refine o_move ?_
  try dsimp only [putL, setL, evL, getL]
  obtain ⟨u5, hu5, H⟩ := headE H
  refine HL_cons rfl ?_
  refine o_call (args := #[.agg #[.int .i64 p0_0, .slice A0_1p p0_1.length c0_1p, .slice A0_2p p0_2.length c0_2p, .int .i64 p0_3], .int .i64 1048576]) Try.func21 rfl rfl rfl (laws_szBuf.ok sb s2 no p0_0 A0_1p c0_1p p0_1 A0_2p c0_2p p0_2 p0_3 1048576 HRp0_1 HRp0_2 (Hp.own hH.bs) _ hu5) ?_
  rintro _ s5 ⟨rfl, hD⟩
  replace hH := hH.back0 hD (Up.refl _ _ _)
  clear hD
  dsimp only [addC, setC, rmC, selC, getC] at hH
  try dsimp only [putL, setL, evL, getL]
  refine HL_cons rfl ?_
  refine o_assign ?_
  try dsimp only [putL, setL, evL, getL]
  refine HL_nil ?_
  refine hK4 _ _ ?_
  refine HT_seq_k ?_
  intro K6 hK6
  refine HT_seq_k ?_
  intro K7 hK7
  refine HT_region ?_
  refine HL_cons rfl ?_
  refine o_move ?_
  try dsimp only [putL, setL, evL, getL]
  refine HL_cons rfl ?_
  refine o_bin rfl rfl rfl ?_
  try dsimp only [putL, setL, evL, getL]
  refine HL_nil ?_
  refine hK7 _ _ ?_
  rcases Bool.eq_false_or_eq_true (decide (u5 < 0)) with hb8 | hb8
  · replace H := iteT hb8 H
    refine HT_true (congrArg Value.bool hb8) ?_
    refine HT_seq_k ?_
    intro K9 hK9
    refine HT_region ?_
    refine HL_cons rfl ?_
    refine o_assign ?_
    try dsimp only [putL, setL, evL, getL]
    refine HL_nil ?_
    refine hK9 _ _ ?_
    refine HT_ret ?_
    obtain rfl := Option.some.inj (show some _ = some r from H)
    exact hQr _ _ [.bool true] ⟨rfl, trivial⟩ ⟨rfl, hH.sel [] (by decide)⟩
  · replace H := iteF hb8 H
    refine HT_false (congrArg Value.bool hb8) ?_
    refine HT_skip ?_
    refine hK6 _ _ ?_
    refine HT_seq_k ?_
    intro K10 hK10
    refine HT_region ?_
    refine HL_cons rfl ?_
    refine o_loads' [.int .i64 p0_0, .slice A0_1p p0_1.length c0_1p, .slice A0_2p p0_2.length c0_2p, .int .i64 p0_3] rfl Try.underlying29 rfl tI29 rfl (hH.partv 0 rfl (0) [.int .i64 p0_0, .slice A0_1p p0_1.length c0_1p, .slice A0_2p p0_2.length c0_2p, .int .i64 p0_3] rfl) ?_
    try dsimp only [putL, setL, evL, getL]
    obtain ⟨u11, hu11, H⟩ := headE H
    refine HL_cons rfl ?_
    refine o_call (args := #[.agg #[.int .i64 p0_0, .slice A0_1p p0_1.length c0_1p, .slice A0_2p p0_2.length c0_2p, .int .i64 p0_3]]) Try.func23 rfl rfl rfl (laws_toBuf.ok sb s5 no p0_0 A0_1p c0_1p p0_1 A0_2p c0_2p p0_2 p0_3 HRp0_1 HRp0_2 (Hp.own hH.bs) _ hu11) ?_
    rintro _ s11 ⟨A12, c12, A13, c13, rfl, hD⟩
    replace hH := hH.back0 hD (Up.refl _ _ _)
    clear hD
    dsimp only [addC, setC, rmC, selC, getC] at hH
    try dsimp only [putL, setL, evL, getL]
    refine HL_cons rfl ?_
    refine o_move ?_
    try dsimp only [putL, setL, evL, getL]
    obtain ⟨u14, hu14, H⟩ := headE H
    refine HL_cons rfl ?_
    refine o_call (args := #[.agg #[.int .i64 u11.1, .slice A12 u11.2.1.length c12, .slice A13 u11.2.2.1.length c13, .int .i64 u11.2.2.2], .int .i64 p1]) Try.func22 rfl rfl rfl (spec_TakeBuf.ok s11 s11 no u11.1 A12 c12 u11.2.1 A13 c13 u11.2.2.1 u11.2.2.2 p1 (hH.rd 1 rfl) (hH.rd 2 rfl) (Hp.own (Bs.refl s11)) _ hu14) ?_
    rintro _ s14 ⟨A15, c15, A16, c16, A17, c17, rfl, hD⟩
    replace hH := hH.back0T hD
    clear hD
    dsimp only [addC, setC, rmC, selC, getC] at hH
    try dsimp only [putL, setL, evL, getL]
    refine HL_cons rfl ?_
    refine o_move ?_
    try dsimp only [putL, setL, evL, getL]
    refine HL_cons rfl ?_
    refine o_extract rfl rfl ?_
    try dsimp only [putL, setL, evL, getL]
    refine HL_cons rfl ?_
    refine o_extract rfl rfl ?_
    try dsimp only [putL, setL, evL, getL]
    refine HL_cons rfl ?_
    refine o_extract rfl rfl ?_
    try dsimp only [putL, setL, evL, getL]
    refine HL_cons rfl ?_
    refine o_allocH hH tI31 ?_
    intro b18 s18 hH' hG
    replace hH : Hp sb s F0 s18 [Ck.ov b2 [.int .i64 p0_0, .slice A0_1p p0_1.length c0_1p, .slice A0_2p p0_2.length c0_2p, .int .i64 p0_3] 29, Ck.ol OI 3 A12 c12 u11.2.1, Ck.ol OI 3 A13 c13 u11.2.2.1, Ck.ol OI 3 A15 c15 u14.2.1, Ck.ol OI 3 A16 c16 u14.2.2.1, Ck.ol OI 3 A17 c17 u14.2.2.2.2.1, Ck.ov b18 [.int .i64 0, .slice none 0 0, .slice none 0 0, .int .i64 0] 31] := hH'
    clear hH' hG
    try dsimp only [putL, setL, evL, getL]
    refine HL_cons rfl ?_
    refine o_stvH (vs := [.int .i64 u14.1, .slice A15 u14.2.1.length c15, .slice A16 u14.2.2.1.length c16, .int .i64 u14.2.2.2.1]) (us' := [.int .i64 u14.1, .slice A15 u14.2.1.length c15, .slice A16 u14.2.2.1.length c16, .int .i64 u14.2.2.2.1]) hH 6 rfl rfl rfl rfl rfl tI31 rfl (List.cons_ne_nil _ _) rfl rfl rfl ?_
    intro s19 hH'
    replace hH : Hp sb s F0 s19 [Ck.ov b2 [.int .i64 p0_0, .slice A0_1p p0_1.length c0_1p, .slice A0_2p p0_2.length c0_2p, .int .i64 p0_3] 29, Ck.ol OI 3 A12 c12 u11.2.1, Ck.ol OI 3 A13 c13 u11.2.2.1, Ck.ol OI 3 A15 c15 u14.2.1, Ck.ol OI 3 A16 c16 u14.2.2.1, Ck.ol OI 3 A17 c17 u14.2.2.2.2.1, Ck.ov b18 [.int .i64 u14.1, .slice A15 u14.2.1.length c15, .slice A16 u14.2.2.1.length c16, .int .i64 u14.2.2.2.1] 31] := hH'
    clear hH'
    try dsimp only [putL, setL, evL, getL]
    refine HL_cons rfl ?_
    refine o_assign ?_
    try dsimp only [putL, setL, evL, getL]
    refine HL_cons rfl ?_
    refine o_assign ?_
    try dsimp only [putL, setL, evL, getL]
    refine HL_nil ?_
    refine hK10 _ _ ?_
    refine HT_seq_k ?_
    intro K20 hK20
    refine HT_region ?_
    refine HL_cons rfl ?_
    refine o_loads' [.int .i64 p0_0, .slice A0_1p p0_1.length c0_1p, .slice A0_2p p0_2.length c0_2p, .int .i64 p0_3] rfl Try.underlying29 rfl tI29 rfl (hH.partv 0 rfl (0) [.int .i64 p0_0, .slice A0_1p p0_1.length c0_1p, .slice A0_2p p0_2.length c0_2p, .int .i64 p0_3] rfl) ?_
    try dsimp only [putL, setL, evL, getL]
    obtain ⟨u21, hu21, H⟩ := headE H
    refine HL_cons rfl ?_
    refine o_call (args := #[.agg #[.int .i64 p0_0, .slice A0_1p p0_1.length c0_1p, .slice A0_2p p0_2.length c0_2p, .int .i64 p0_3]]) Try.func23 rfl rfl rfl (laws_toBuf.ok sb s19 no p0_0 A0_1p c0_1p p0_1 A0_2p c0_2p p0_2 p0_3 HRp0_1 HRp0_2 (Hp.own hH.bs) _ hu21) ?_
    rintro _ s21 ⟨A22, c22, A23, c23, rfl, hD⟩
    replace hH := hH.back0 hD (Up.refl _ _ _)
    clear hD
    dsimp only [addC, setC, rmC, selC, getC] at hH
    try dsimp only [putL, setL, evL, getL]
    refine HL_cons rfl ?_
    refine o_allocH hH tI31 ?_
    intro b24 s24 hH' hG
    replace hH : Hp sb s F0 s24 [Ck.ov b2 [.int .i64 p0_0, .slice A0_1p p0_1.length c0_1p, .slice A0_2p p0_2.length c0_2p, .int .i64 p0_3] 29, Ck.ol OI 3 A12 c12 u11.2.1, Ck.ol OI 3 A13 c13 u11.2.2.1, Ck.ol OI 3 A15 c15 u14.2.1, Ck.ol OI 3 A16 c16 u14.2.2.1, Ck.ol OI 3 A17 c17 u14.2.2.2.2.1, Ck.ov b18 [.int .i64 u14.1, .slice A15 u14.2.1.length c15, .slice A16 u14.2.2.1.length c16, .int .i64 u14.2.2.2.1] 31, Ck.ol OI 3 A22 c22 u21.2.1, Ck.ol OI 3 A23 c23 u21.2.2.1, Ck.ov b24 [.int .i64 0, .slice none 0 0, .slice none 0 0, .int .i64 0] 31] := hH'
    clear hH' hG
    try dsimp only [putL, setL, evL, getL]
    refine HL_cons rfl ?_
    refine o_stvH (vs := [.int .i64 u21.1, .slice A22 u21.2.1.length c22, .slice A23 u21.2.2.1.length c23, .int .i64 u21.2.2.2]) (us' := [.int .i64 u21.1, .slice A22 u21.2.1.length c22, .slice A23 u21.2.2.1.length c23, .int .i64 u21.2.2.2]) hH 9 rfl rfl rfl rfl rfl tI31 rfl (List.cons_ne_nil _ _) rfl rfl rfl ?_
    intro s25 hH'
    replace hH : Hp sb s F0 s25 [Ck.ov b2 [.int .i64 p0_0, .slice A0_1p p0_1.length c0_1p, .slice A0_2p p0_2.length c0_2p, .int .i64 p0_3] 29, Ck.ol OI 3 A12 c12 u11.2.1, Ck.ol OI 3 A13 c13 u11.2.2.1, Ck.ol OI 3 A15 c15 u14.2.1, Ck.ol OI 3 A16 c16 u14.2.2.1, Ck.ol OI 3 A17 c17 u14.2.2.2.2.1, Ck.ov b18 [.int .i64 u14.1, .slice A15 u14.2.1.length c15, .slice A16 u14.2.2.1.length c16, .int .i64 u14.2.2.2.1] 31, Ck.ol OI 3 A22 c22 u21.2.1, Ck.ol OI 3 A23 c23 u21.2.2.1, Ck.ov b24 [.int .i64 u21.1, .slice A22 u21.2.1.length c22, .slice A23 u21.2.2.1.length c23, .int .i64 u21.2.2.2] 31] := hH'
    clear hH'
    try dsimp only [putL, setL, evL, getL]
    refine HL_nil ?_
    refine hK20 _ _ ?_
    refine HT_seq_k ?_
    intro K26 hK26
    refine HT_region ?_
    refine HL_cons rfl ?_
    refine o_loads' [.int .i64 u21.1, .slice A22 u21.2.1.length c22, .slice A23 u21.2.2.1.length c23, .int .i64 u21.2.2.2] rfl Try.underlying31 rfl tI31 rfl (hH.partv 9 rfl (0) [.int .i64 u21.1, .slice A22 u21.2.1.length c22, .slice A23 u21.2.2.1.length c23, .int .i64 u21.2.2.2] rfl) ?_
    try dsimp only [putL, setL, evL, getL]
    refine HL_cons rfl ?_
    refine o_move ?_
    try dsimp only [putL, setL, evL, getL]
    obtain ⟨u27, hu27, H⟩ := headE H
    refine HL_cons rfl ?_
    refine o_call (args := #[.agg #[.int .i64 u21.1, .slice A22 u21.2.1.length c22, .slice A23 u21.2.2.1.length c23, .int .i64 u21.2.2.2], .int .i64 p1]) Try.func24 rfl rfl rfl (impl_TakeBuf.ok s25 s25 no u21.1 A22 c22 u21.2.1 A23 c23 u21.2.2.1 u21.2.2.2 p1 (hH.rd 7 rfl) (hH.rd 8 rfl) (Hp.own (Bs.refl s25)) _ hu27) ?_
    rintro _ s27 ⟨A28, c28, A29, c29, A30, c30, rfl, hD⟩
    replace hH := hH.back0T hD
    clear hD
    dsimp only [addC, setC, rmC, selC, getC] at hH
    try dsimp only [putL, setL, evL, getL]
    refine HL_cons rfl ?_
    refine o_move ?_
    try dsimp only [putL, setL, evL, getL]
    refine HL_cons rfl ?_
    refine o_extract rfl rfl ?_
    try dsimp only [putL, setL, evL, getL]
    refine HL_cons rfl ?_
    refine o_extract rfl rfl ?_
    try dsimp only [putL, setL, evL, getL]
    refine HL_cons rfl ?_
    refine o_extract rfl rfl ?_
    try dsimp only [putL, setL, evL, getL]
    refine HL_cons rfl ?_
    refine o_allocH hH tI31 ?_
    intro b31 s31 hH' hG
    replace hH : Hp sb s F0 s31 [Ck.ov b2 [.int .i64 p0_0, .slice A0_1p p0_1.length c0_1p, .slice A0_2p p0_2.length c0_2p, .int .i64 p0_3] 29, Ck.ol OI 3 A12 c12 u11.2.1, Ck.ol OI 3 A13 c13 u11.2.2.1, Ck.ol OI 3 A15 c15 u14.2.1, Ck.ol OI 3 A16 c16 u14.2.2.1, Ck.ol OI 3 A17 c17 u14.2.2.2.2.1, Ck.ov b18 [.int .i64 u14.1, .slice A15 u14.2.1.length c15, .slice A16 u14.2.2.1.length c16, .int .i64 u14.2.2.2.1] 31, Ck.ol OI 3 A22 c22 u21.2.1, Ck.ol OI 3 A23 c23 u21.2.2.1, Ck.ov b24 [.int .i64 u21.1, .slice A22 u21.2.1.length c22, .slice A23 u21.2.2.1.length c23, .int .i64 u21.2.2.2] 31, Ck.ol OI 3 A28 c28 u27.2.1, Ck.ol OI 3 A29 c29 u27.2.2.1, Ck.ol OI 3 A30 c30 u27.2.2.2.2.1, Ck.ov b31 [.int .i64 0, .slice none 0 0, .slice none 0 0, .int .i64 0] 31] := hH'
    clear hH' hG
    try dsimp only [putL, setL, evL, getL]
    refine HL_cons rfl ?_
    refine o_stvH (vs := [.int .i64 u27.1, .slice A28 u27.2.1.length c28, .slice A29 u27.2.2.1.length c29, .int .i64 u27.2.2.2.1]) (us' := [.int .i64 u27.1, .slice A28 u27.2.1.length c28, .slice A29 u27.2.2.1.length c29, .int .i64 u27.2.2.2.1]) hH 13 rfl rfl rfl rfl rfl tI31 rfl (List.cons_ne_nil _ _) rfl rfl rfl ?_
    intro s32 hH'
    replace hH : Hp sb s F0 s32 [Ck.ov b2 [.int .i64 p0_0, .slice A0_1p p0_1.length c0_1p, .slice A0_2p p0_2.length c0_2p, .int .i64 p0_3] 29, Ck.ol OI 3 A12 c12 u11.2.1, Ck.ol OI 3 A13 c13 u11.2.2.1, Ck.ol OI 3 A15 c15 u14.2.1, Ck.ol OI 3 A16 c16 u14.2.2.1, Ck.ol OI 3 A17 c17 u14.2.2.2.2.1, Ck.ov b18 [.int .i64 u14.1, .slice A15 u14.2.1.length c15, .slice A16 u14.2.2.1.length c16, .int .i64 u14.2.2.2.1] 31, Ck.ol OI 3 A22 c22 u21.2.1, Ck.ol OI 3 A23 c23 u21.2.2.1, Ck.ov b24 [.int .i64 u21.1, .slice A22 u21.2.1.length c22, .slice A23 u21.2.2.1.length c23, .int .i64 u21.2.2.2] 31, Ck.ol OI 3 A28 c28 u27.2.1, Ck.ol OI 3 A29 c29 u27.2.2.1, Ck.ol OI 3 A30 c30 u27.2.2.2.2.1, Ck.ov b31 [.int .i64 u27.1, .slice A28 u27.2.1.length c28, .slice A29 u27.2.2.1.length c29, .int .i64 u27.2.2.2.1] 31] := hH'
    clear hH'
    try dsimp only [putL, setL, evL, getL]
    refine HL_cons rfl ?_
    refine o_assign ?_
    try dsimp only [putL, setL, evL, getL]
    refine HL_cons rfl ?_
    refine o_assign ?_
    try dsimp only [putL, setL, evL, getL]
    refine HL_nil ?_
    refine hK26 _ _ ?_
    refine HT_seq_k ?_
    intro K47 hK47
    refine joinH H fun G48 hG48 H => ?_
    refine HT_joinK (fun l' s' => ∃ (x53 : Bool), G48 x53 = some r ∧ l' = [.agg #[.int .i64 p0_0, .slice A0_1p p0_1.length c0_1p, .slice A0_2p p0_2.length c0_2p, .int .i64 p0_3], .int .i64 p1, .pointer (some ⟨b2, 0, none⟩), undef, .bool false, .int .i64 u5, .pointer (some ⟨b18, 0, none⟩), .slice A17 u14.2.2.2.2.1.length c17, .bool u14.2.2.2.2.2, .pointer (some ⟨b24, 0, none⟩), .pointer (some ⟨b31, 0, none⟩), .slice A30 u27.2.2.2.2.1.length c30, .bool u27.2.2.2.2.2, undef, undef, undef, undef, undef, undef, .agg #[.int .i64 p0_0, .slice A0_1p p0_1.length c0_1p, .slice A0_2p p0_2.length c0_2p, .int .i64 p0_3], .int .i64 1048576, .int .i64 u5, .int .i64 u5, .bool (decide (u5 < 0)), .tuple #[.agg #[.int .i64 u14.1, .slice A15 u14.2.1.length c15, .slice A16 u14.2.2.1.length c16, .int .i64 u14.2.2.2.1], .slice A17 u14.2.2.2.2.1.length c17, .bool u14.2.2.2.2.2], .agg #[.int .i64 p0_0, .slice A0_1p p0_1.length c0_1p, .slice A0_2p p0_2.length c0_2p, .int .i64 p0_3], .agg #[.int .i64 u11.1, .slice A12 u11.2.1.length c12, .slice A13 u11.2.2.1.length c13, .int .i64 u11.2.2.2], .int .i64 p1, .tuple #[.agg #[.int .i64 u14.1, .slice A15 u14.2.1.length c15, .slice A16 u14.2.2.1.length c16, .int .i64 u14.2.2.2.1], .slice A17 u14.2.2.2.2.1.length c17, .bool u14.2.2.2.2.2], .agg #[.int .i64 u14.1, .slice A15 u14.2.1.length c15, .slice A16 u14.2.2.1.length c16, .int .i64 u14.2.2.2.1], .slice A17 u14.2.2.2.2.1.length c17, .bool u14.2.2.2.2.2, .agg #[.int .i64 p0_0, .slice A0_1p p0_1.length c0_1p, .slice A0_2p p0_2.length c0_2p, .int .i64 p0_3], .agg #[.int .i64 u21.1, .slice A22 u21.2.1.length c22, .slice A23 u21.2.2.1.length c23, .int .i64 u21.2.2.2], .tuple #[.agg #[.int .i64 u27.1, .slice A28 u27.2.1.length c28, .slice A29 u27.2.2.1.length c29, .int .i64 u27.2.2.2.1], .slice A30 u27.2.2.2.2.1.length c30, .bool u27.2.2.2.2.2], .agg #[.int .i64 u21.1, .slice A22 u21.2.1.length c22, .slice A23 u21.2.2.1.length c23, .int .i64 u21.2.2.2], .int .i64 p1, .tuple #[.agg #[.int .i64 u27.1, .slice A28 u27.2.1.length c28, .slice A29 u27.2.2.1.length c29, .int .i64 u27.2.2.2.1], .slice A30 u27.2.2.2.2.1.length c30, .bool u27.2.2.2.2.2], .agg #[.int .i64 u27.1, .slice A28 u27.2.1.length c28, .slice A29 u27.2.2.1.length c29, .int .i64 u27.2.2.2.1], .slice A30 u27.2.2.2.2.1.length c30, .bool u27.2.2.2.2.2, getL l' 41, getL l' 42, getL l' 43, getL l' 44, getL l' 45, getL l' 46, getL l' 47, getL l' 48, getL l' 49, getL l' 50, getL l' 51, getL l' 52, getL l' 53, getL l' 54, .bool x53, undef, undef, undef, undef, undef, undef, undef, undef, undef, undef, undef, undef, undef, undef, undef, undef, undef, undef, undef, undef, undef, undef, undef, undef, undef, undef, undef, undef, undef, undef, undef, undef, undef, undef, undef, undef, undef, undef, undef, undef, undef, undef, undef, undef, undef, undef, undef, undef, undef, undef, undef, undef, undef, undef, undef, undef, undef, undef, undef, undef, undef, undef, undef, undef, undef, undef, undef, undef, undef, undef, undef, undef, undef, undef, undef, undef, undef, undef, undef, undef, undef, undef] ∧ Hp sb s F0 s' [Ck.ol OI 3 A17 c17 u14.2.2.2.2.1, Ck.ol OI 3 A30 c30 u27.2.2.2.2.1, Ck.ol OI 3 A15 c15 u14.2.1, Ck.ol OI 3 A16 c16 u14.2.2.1, Ck.ol OI 3 A22 c22 u21.2.1, Ck.ol OI 3 A23 c23 u21.2.2.1, Ck.ol OI 3 A28 c28 u27.2.1, Ck.ol OI 3 A29 c29 u27.2.2.1, Ck.ov b2 [.int .i64 p0_0, .slice A0_1p p0_1.length c0_1p, .slice A0_2p p0_2.length c0_2p, .int .i64 p0_3] 29, Ck.ov b18 [.int .i64 u14.1, .slice A15 u14.2.1.length c15, .slice A16 u14.2.2.1.length c16, .int .i64 u14.2.2.2.1] 31, Ck.ov b24 [.int .i64 u21.1, .slice A22 u21.2.1.length c22, .slice A23 u21.2.2.1.length c23, .int .i64 u21.2.2.2] 31, Ck.ov b31 [.int .i64 u27.1, .slice A28 u27.2.1.length c28, .slice A29 u27.2.2.1.length c29, .int .i64 u27.2.2.2.1] 31]) ?_ ?_
    · intro K48 hK48
      refine HT_region ?_
      refine HL_cons rfl ?_
      refine o_loads' [.int .i64 u27.1, .slice A28 u27.2.1.length c28, .slice A29 u27.2.2.1.length c29, .int .i64 u27.2.2.2.1] rfl Try.underlying31 rfl tI31 rfl (hH.partv 13 rfl (0) [.int .i64 u27.1, .slice A28 u27.2.1.length c28, .slice A29 u27.2.2.1.length c29, .int .i64 u27.2.2.2.1] rfl) ?_
      try dsimp only [putL, setL, evL, getL]
      refine HL_cons rfl ?_
      refine o_loads' [.int .i64 u14.1, .slice A15 u14.2.1.length c15, .slice A16 u14.2.2.1.length c16, .int .i64 u14.2.2.2.1] rfl Try.underlying31 rfl tI31 rfl (hH.partv 6 rfl (0) [.int .i64 u14.1, .slice A15 u14.2.1.length c15, .slice A16 u14.2.2.1.length c16, .int .i64 u14.2.2.2.1] rfl) ?_
      try dsimp only [putL, setL, evL, getL]
      obtain ⟨u54, hu54, H⟩ := headE H
      refine HL_cons rfl ?_
      refine o_call (args := #[.agg #[.int .i64 u27.1, .slice A28 u27.2.1.length c28, .slice A29 u27.2.2.1.length c29, .int .i64 u27.2.2.2.1], .agg #[.int .i64 u14.1, .slice A15 u14.2.1.length c15, .slice A16 u14.2.2.1.length c16, .int .i64 u14.2.2.2.1]]) Try.func25 rfl rfl rfl (laws_eqBuf.ok s32 s32 no u27.1 A28 c28 u27.2.1 A29 c29 u27.2.2.1 u27.2.2.2.1 u14.1 A15 c15 u14.2.1 A16 c16 u14.2.2.1 u14.2.2.2.1 (hH.rd 10 rfl) (hH.rd 11 rfl) (hH.rd 3 rfl) (hH.rd 4 rfl) (Hp.own (Bs.refl s32)) _ hu54) ?_
      rintro _ s54 ⟨rfl, hD⟩
      replace hH := hH.back0T hD
      clear hD
      dsimp only [addC, setC, rmC, selC, getC] at hH
      try dsimp only [putL, setL, evL, getL]
      refine HL_cons rfl ?_
      refine o_not rfl ?_
      try dsimp only [putL, setL, evL, getL]
      refine HL_cons rfl ?_
      refine o_move ?_
      try dsimp only [putL, setL, evL, getL]
      rcases Bool.eq_false_or_eq_true (!u54) with hb55 | hb55
      · replace H := iteT hb55 H
        refine HL_skip ?_ ?_
        · exact wantF (j := 4) (b := false) (t := 45) (c := !u54) rfl rfl rfl rfl hb55
        try dsimp only [putL, setL, evL, getL]
        refine HL_skip ?_ ?_
        · exact wantF (j := 4) (b := false) (t := 45) (c := !u54) rfl rfl rfl rfl hb55
        try dsimp only [putL, setL, evL, getL]
        refine HL_skip ?_ ?_
        · exact wantF (j := 4) (b := false) (t := 45) (c := !u54) rfl rfl rfl rfl hb55
        try dsimp only [putL, setL, evL, getL]
        refine HL_skip ?_ ?_
        · exact wantF (j := 4) (b := false) (t := 45) (c := !u54) rfl rfl rfl rfl hb55
        try dsimp only [putL, setL, evL, getL]
        refine HL_cons rfl ?_
        refine o_pickT rfl hb55 ?_
        try dsimp only [putL, setL, evL, getL]
        refine HL_cons rfl ?_
        refine o_move ?_
        try dsimp only [putL, setL, evL, getL]
        refine HL_skip ?_ ?_
        · exact wantF (j := 10) (b := false) (t := 51) (c := true) rfl rfl rfl rfl rfl
        try dsimp only [putL, setL, evL, getL]
        refine HL_skip ?_ ?_
        · exact wantF (j := 10) (b := false) (t := 51) (c := true) rfl rfl rfl rfl rfl
        try dsimp only [putL, setL, evL, getL]
        refine HL_skip ?_ ?_
        · exact wantF (j := 10) (b := false) (t := 51) (c := true) rfl rfl rfl rfl rfl
        try dsimp only [putL, setL, evL, getL]
        refine HL_cons rfl ?_
        refine o_pickT rfl rfl ?_
        try dsimp only [putL, setL, evL, getL]
        refine HL_nil ?_
        exact hK48 _ _ ⟨true, H, rfl, hH.sel [5, 12, 3, 4, 7, 8, 10, 11, 0, 6, 9, 13] (by decide)⟩
      · replace H := iteF hb55 H
        refine HL_want ?_ ?_
        · exact wantT (j := 4) (b := false) (t := 45) (c := !u54) rfl rfl rfl rfl hb55
        refine o_move ?_
        try dsimp only [putL, setL, evL, getL]
        refine HL_want ?_ ?_
        · exact wantT (j := 4) (b := false) (t := 45) (c := !u54) rfl rfl rfl rfl hb55
        refine o_move ?_
        try dsimp only [putL, setL, evL, getL]
        obtain ⟨u56, hu56, H⟩ := headE H
        refine HL_want ?_ ?_
        · exact wantT (j := 4) (b := false) (t := 45) (c := !u54) rfl rfl rfl rfl hb55
        refine o_call (args := #[.slice A30 u27.2.2.2.2.1.length c30, .slice A17 u14.2.2.2.2.1.length c17]) Try.func18 rfl rfl rfl (laws_eqIntS.ok s54 s54 no A30 c30 u27.2.2.2.2.1 A17 c17 u14.2.2.2.2.1 (hH.rd 12 rfl) (hH.rd 5 rfl) (Hp.own (Bs.refl s54)) _ hu56) ?_
        rintro _ s56 ⟨rfl, hD⟩
        replace hH := hH.back0T hD
        clear hD
        dsimp only [addC, setC, rmC, selC, getC] at hH
        try dsimp only [putL, setL, evL, getL]
        refine HL_want ?_ ?_
        · exact wantT (j := 4) (b := false) (t := 45) (c := !u54) rfl rfl rfl rfl hb55
        refine o_not rfl ?_
        try dsimp only [putL, setL, evL, getL]
        refine HL_cons rfl ?_
        refine o_pickF rfl hb55 ?_
        try dsimp only [putL, setL, evL, getL]
        refine HL_cons rfl ?_
        refine o_move ?_
        try dsimp only [putL, setL, evL, getL]
        rcases Bool.eq_false_or_eq_true (!u56) with hb57 | hb57
        · replace H := iteT hb57 H
          refine HL_skip ?_ ?_
          · exact wantF (j := 10) (b := false) (t := 51) (c := !u56) rfl rfl rfl rfl hb57
          try dsimp only [putL, setL, evL, getL]
          refine HL_skip ?_ ?_
          · exact wantF (j := 10) (b := false) (t := 51) (c := !u56) rfl rfl rfl rfl hb57
          try dsimp only [putL, setL, evL, getL]
          refine HL_skip ?_ ?_
          · exact wantF (j := 10) (b := false) (t := 51) (c := !u56) rfl rfl rfl rfl hb57
          try dsimp only [putL, setL, evL, getL]
          refine HL_cons rfl ?_
          refine o_pickT rfl hb57 ?_
          try dsimp only [putL, setL, evL, getL]
          refine HL_nil ?_
          exact hK48 _ _ ⟨true, H, rfl, hH.sel [5, 12, 3, 4, 7, 8, 10, 11, 0, 6, 9, 13] (by decide)⟩
        · replace H := iteF hb57 H
          refine HL_want ?_ ?_
          · exact wantT (j := 10) (b := false) (t := 51) (c := !u56) rfl rfl rfl rfl hb57
          refine o_move ?_
          try dsimp only [putL, setL, evL, getL]
          refine HL_want ?_ ?_
          · exact wantT (j := 10) (b := false) (t := 51) (c := !u56) rfl rfl rfl rfl hb57
          refine o_move ?_
          try dsimp only [putL, setL, evL, getL]
          refine HL_want ?_ ?_
          · exact wantT (j := 10) (b := false) (t := 51) (c := !u56) rfl rfl rfl rfl hb57
          refine o_neb rfl rfl Try.underlying4 ?_
          try dsimp only [putL, setL, evL, getL]
          refine HL_cons rfl ?_
          refine o_pickF rfl hb57 ?_
          try dsimp only [putL, setL, evL, getL]
          refine HL_nil ?_
          exact hK48 _ _ ⟨u27.2.2.2.2.2 != u14.2.2.2.2.2, H, rfl, hH.sel [5, 12, 3, 4, 7, 8, 10, 11, 0, 6, 9, 13] (by decide)⟩
    · rintro l' s58 ⟨x53, H, hl, hH⟩
      generalize getL l' 41 = j41, getL l' 42 = j42, getL l' 43 = j43, getL l' 44 = j44, getL l' 45 = j45, getL l' 46 = j46, getL l' 47 = j47, getL l' 48 = j48, getL l' 49 = j49, getL l' 50 = j50, getL l' 51 = j51, getL l' 52 = j52, getL l' 53 = j53, getL l' 54 = j54 at hl
      subst hl
      replace H := hG48 _ H
      try dsimp only at H
      rcases Bool.eq_false_or_eq_true x53 with hb59 | hb59
      · replace H := iteT hb59 H
        refine HT_true (congrArg Value.bool hb59) ?_
        refine HT_seq_k ?_
        intro K60 hK60
        refine HT_region ?_
        refine HL_cons rfl ?_
        refine o_assign ?_
        try dsimp only [putL, setL, evL, getL]
        refine HL_nil ?_
        refine hK60 _ _ ?_
        refine HT_ret ?_
        obtain rfl := Option.some.inj (show some _ = some r from H)
        exact hQr _ _ [.bool false] ⟨rfl, trivial⟩ ⟨rfl, hH.sel [] (by decide)⟩
      · replace H := iteF hb59 H
        refine HT_false (congrArg Value.bool hb59) ?_
        refine HT_skip ?_
        refine hK47 _ _ ?_
        refine HT_seq_k ?_
        intro K61 hK61
        refine HT_seq_k ?_
        intro K62 hK62
        refine HK_draw (fun s' => Gro s58 s') 6 hMix ?_
        have hR := Gro.refl s58
        have hH0 := hH
        refine HK_read 0 (v := .agg #[.int .i64 u21.1, .slice A22 u21.2.1.length c22, .slice A23 u21.2.2.1.length c23, .int .i64 u21.2.2.2]) rfl (by kernel_rfl) (fun c l s h => hQp c l s h) rfl (fun s' hR' K hK => ?_) rfl rfl hR ?_
        · refine o_loads' [.int .i64 u21.1, .slice A22 u21.2.1.length c22, .slice A23 u21.2.2.1.length c23, .int .i64 u21.2.2.2] rfl Try.underlying31 rfl tI31 rfl (fun j v hj => has_gro hR' ((hH0.partv 10 rfl (0) [.int .i64 u21.1, .slice A22 u21.2.1.length c22, .slice A23 u21.2.2.1.length c23, .int .i64 u21.2.2.2] rfl) j v hj)) ?_
          exact hK
        try dsimp only [putL, setL, evL, getL]
        refine HK_read 1 (v := .agg #[.int .i64 p0_0, .slice A0_1p p0_1.length c0_1p, .slice A0_2p p0_2.length c0_2p, .int .i64 p0_3]) rfl (by kernel_rfl) (fun c l s h => hQp c l s h) rfl (fun s' hR' K hK => ?_) rfl rfl hR ?_
        · refine o_loads' [.int .i64 p0_0, .slice A0_1p p0_1.length c0_1p, .slice A0_2p p0_2.length c0_2p, .int .i64 p0_3] rfl Try.underlying29 rfl tI29 rfl (fun j v hj => has_gro hR' ((hH0.partv 8 rfl (0) [.int .i64 p0_0, .slice A0_1p p0_1.length c0_1p, .slice A0_2p p0_2.length c0_2p, .int .i64 p0_3] rfl) j v hj)) ?_
          exact hK
        try dsimp only [putL, setL, evL, getL]
        obtain ⟨u63, hu63, H⟩ := headE H
        refine HK_one 2 (by kernel_rfl) rfl (fun _ => hR) rfl ?_
        refine o_call (args := #[.agg #[.int .i64 p0_0, .slice A0_1p p0_1.length c0_1p, .slice A0_2p p0_2.length c0_2p, .int .i64 p0_3]]) Try.func23 rfl rfl rfl (laws_toBuf.ok sb s58 no p0_0 A0_1p c0_1p p0_1 A0_2p c0_2p p0_2 p0_3 HRp0_1 HRp0_2 (Hp.own hH.bs) _ hu63) ?_
        rintro _ s63 ⟨A64, c64, A65, c65, rfl, hD⟩
        replace hR := hR.trans hD.gro
        replace hH := hH.back0 hD (Up.refl _ _ _)
        clear hD
        dsimp only [addC, setC, rmC, selC, getC] at hH
        try dsimp only [putL, setL, evL, getL]
        obtain ⟨u66, hu66, H⟩ := headE H
        refine HK_one 3 (by kernel_rfl) rfl (fun _ => hR) rfl ?_
        refine o_call (args := #[.agg #[.int .i64 u21.1, .slice A22 u21.2.1.length c22, .slice A23 u21.2.2.1.length c23, .int .i64 u21.2.2.2], .agg #[.int .i64 u63.1, .slice A64 u63.2.1.length c64, .slice A65 u63.2.2.1.length c65, .int .i64 u63.2.2.2]]) Try.func25 rfl rfl rfl (laws_eqBuf.ok s63 s63 no u21.1 A22 c22 u21.2.1 A23 c23 u21.2.2.1 u21.2.2.2 u63.1 A64 c64 u63.2.1 A65 c65 u63.2.2.1 u63.2.2.2 (hH.rd 4 rfl) (hH.rd 5 rfl) (hH.rd 12 rfl) (hH.rd 13 rfl) (Hp.own (Bs.refl s63)) _ hu66) ?_
        rintro _ s66 ⟨rfl, hD⟩
        replace hR := hR.trans hD.gro
        replace hH := hH.back0T hD
        clear hD
        dsimp only [addC, setC, rmC, selC, getC] at hH
        try dsimp only [putL, setL, evL, getL]
        refine HK_readP 4 (v := .bool (!u66)) rfl (by kernel_rfl) (fun c l s h => hQp c l s h) rfl (fun s' K hK => ?_) rfl rfl (fun _ => hR) ?_
        · refine o_not rfl ?_
          exact hK
        try dsimp only [putL, setL, evL, getL]
        refine HK_done (fun _ => hR) (by kernel_rfl) ?_
        refine hK62 _ _ ?_
        rcases Bool.eq_false_or_eq_true (!u66) with hb67 | hb67
        · replace H := iteT hb67 H
          refine HT_true (congrArg Value.bool hb67) ?_
          refine HT_seq_k ?_
          intro K68 hK68
          refine HT_region ?_
          refine HL_cons rfl ?_
          refine o_assign ?_
          try dsimp only [putL, setL, evL, getL]
          refine HL_nil ?_
          refine hK68 _ _ ?_
          refine HT_ret ?_
          obtain rfl := Option.some.inj (show some _ = some r from H)
          exact hQr _ _ [.bool false] ⟨rfl, trivial⟩ ⟨rfl, hH.sel [] (by decide)⟩
        · replace H := iteF hb67 H
          refine HT_false (congrArg Value.bool hb67) ?_
          refine HT_skip ?_
          refine hK61 _ _ ?_
          refine HT_seq_k ?_
          intro K69 hK69
          refine HT_region ?_
          refine HL_cons rfl ?_
          refine o_assign ?_
          try dsimp only [putL, setL, evL, getL]
          refine HL_nil ?_
          refine hK69 _ _ ?_
          refine HT_seq_k ?_
          intro K70 hK70
          refine HT_region ?_
          refine HL_cons rfl ?_
          refine o_loads' [.int .i64 u21.1, .slice A22 u21.2.1.length c22, .slice A23 u21.2.2.1.length c23, .int .i64 u21.2.2.2] rfl Try.underlying31 rfl tI31 rfl (hH.partv 10 rfl (0) [.int .i64 u21.1, .slice A22 u21.2.1.length c22, .slice A23 u21.2.2.1.length c23, .int .i64 u21.2.2.2] rfl) ?_
          try dsimp only [putL, setL, evL, getL]
          refine HL_cons rfl ?_
          refine o_move ?_
          try dsimp only [putL, setL, evL, getL]
          obtain ⟨u71, hu71, H⟩ := headE H
          obtain ⟨F1, hA, hB⟩ := hH.take [4, 5] (by decide)
          dsimp only [addC, setC, rmC, selC, getC] at hA
          refine HL_cons rfl ?_
          refine o_call (args := #[.agg #[.int .i64 u21.1, .slice A22 u21.2.1.length c22, .slice A23 u21.2.2.1.length c23, .int .i64 u21.2.2.2], .int .i64 1]) Try.func26 rfl rfl rfl (laws_markBuf.ok sb s66 F1 u21.1 A22 c22 u21.2.1 A23 c23 u21.2.2.1 u21.2.2.2 1 hA _ hu71) ?_
          rintro _ s71 ⟨rfl, hD, hl72, hl73⟩
          replace hH := hB _ _ _ (Up.refl _ _ _) hD
          clear hD hA hB
          dsimp only [addC, setC, rmC, selC, getC] at hH
          try dsimp only [putL, setL, evL, getL]
          refine HL_cons rfl ?_
          refine o_assign ?_
          try dsimp only [putL, setL, evL, getL]
          refine HL_nil ?_
          refine hK70 _ _ ?_
          refine HT_seq_k ?_
          intro K90 hK90
          refine joinH H fun G91 hG91 H => ?_
          refine HT_joinK (fun l' s' => ∃ (x97 : Bool), G91 x97 = some r ∧ l' = [.agg #[.int .i64 p0_0, .slice A0_1p p0_1.length c0_1p, .slice A0_2p p0_2.length c0_2p, .int .i64 p0_3], .int .i64 p1, .pointer (some ⟨b2, 0, none⟩), undef, .bool false, .int .i64 u5, .pointer (some ⟨b18, 0, none⟩), .slice A17 u14.2.2.2.2.1.length c17, .bool u14.2.2.2.2.2, .pointer (some ⟨b24, 0, none⟩), .pointer (some ⟨b31, 0, none⟩), .slice A30 u27.2.2.2.2.1.length c30, .bool u27.2.2.2.2.2, .int .i64 u71.1, undef, undef, undef, undef, undef, .agg #[.int .i64 p0_0, .slice A0_1p p0_1.length c0_1p, .slice A0_2p p0_2.length c0_2p, .int .i64 p0_3], .int .i64 1048576, .int .i64 u5, .int .i64 u5, .bool (decide (u5 < 0)), .tuple #[.agg #[.int .i64 u14.1, .slice A15 u14.2.1.length c15, .slice A16 u14.2.2.1.length c16, .int .i64 u14.2.2.2.1], .slice A17 u14.2.2.2.2.1.length c17, .bool u14.2.2.2.2.2], .agg #[.int .i64 p0_0, .slice A0_1p p0_1.length c0_1p, .slice A0_2p p0_2.length c0_2p, .int .i64 p0_3], .agg #[.int .i64 u11.1, .slice A12 u11.2.1.length c12, .slice A13 u11.2.2.1.length c13, .int .i64 u11.2.2.2], .int .i64 p1, .tuple #[.agg #[.int .i64 u14.1, .slice A15 u14.2.1.length c15, .slice A16 u14.2.2.1.length c16, .int .i64 u14.2.2.2.1], .slice A17 u14.2.2.2.2.1.length c17, .bool u14.2.2.2.2.2], .agg #[.int .i64 u14.1, .slice A15 u14.2.1.length c15, .slice A16 u14.2.2.1.length c16, .int .i64 u14.2.2.2.1], .slice A17 u14.2.2.2.2.1.length c17, .bool u14.2.2.2.2.2, .agg #[.int .i64 p0_0, .slice A0_1p p0_1.length c0_1p, .slice A0_2p p0_2.length c0_2p, .int .i64 p0_3], .agg #[.int .i64 u21.1, .slice A22 u21.2.1.length c22, .slice A23 u21.2.2.1.length c23, .int .i64 u21.2.2.2], .tuple #[.agg #[.int .i64 u27.1, .slice A28 u27.2.1.length c28, .slice A29 u27.2.2.1.length c29, .int .i64 u27.2.2.2.1], .slice A30 u27.2.2.2.2.1.length c30, .bool u27.2.2.2.2.2], .agg #[.int .i64 u21.1, .slice A22 u21.2.1.length c22, .slice A23 u21.2.2.1.length c23, .int .i64 u21.2.2.2], .int .i64 p1, .tuple #[.agg #[.int .i64 u27.1, .slice A28 u27.2.1.length c28, .slice A29 u27.2.2.1.length c29, .int .i64 u27.2.2.2.1], .slice A30 u27.2.2.2.2.1.length c30, .bool u27.2.2.2.2.2], .agg #[.int .i64 u27.1, .slice A28 u27.2.1.length c28, .slice A29 u27.2.2.1.length c29, .int .i64 u27.2.2.2.1], .slice A30 u27.2.2.2.2.1.length c30, .bool u27.2.2.2.2.2, j41, j42, j43, j44, j45, j46, j47, j48, j49, j50, j51, j52, j53, j54, .bool x53, .agg #[.int .i64 u21.1, .slice A22 u21.2.1.length c22, .slice A23 u21.2.2.1.length c23, .int .i64 u21.2.2.2], .agg #[.int .i64 p0_0, .slice A0_1p p0_1.length c0_1p, .slice A0_2p p0_2.length c0_2p, .int .i64 p0_3], .agg #[.int .i64 u63.1, .slice A64 u63.2.1.length c64, .slice A65 u63.2.2.1.length c65, .int .i64 u63.2.2.2], .bool u66, .bool (!u66), .agg #[.int .i64 u21.1, .slice A22 u21.2.1.length c22, .slice A23 u21.2.2.1.length c23, .int .i64 u21.2.2.2], .int .i64 1, .int .i64 u71.1, getL l' 64, getL l' 65, getL l' 66, getL l' 67, getL l' 68, getL l' 69, getL l' 70, getL l' 71, getL l' 72, getL l' 73, getL l' 74, getL l' 75, getL l' 76, getL l' 77, getL l' 78, getL l' 79, getL l' 80, getL l' 81, .bool x97, undef, undef, undef, undef, undef, undef, undef, undef, undef, undef, undef, undef, undef, undef, undef, undef, undef, undef, undef, undef, undef, undef, undef, undef, undef, undef, undef, undef, undef, undef, undef, undef, undef, undef, undef, undef, undef, undef, undef, undef, undef, undef, undef, undef, undef, undef, undef, undef, undef, undef, undef, undef, undef, undef, undef] ∧ Hp sb s F0 s' [Ck.ol OI 3 A17 c17 u14.2.2.2.2.1, Ck.ol OI 3 A30 c30 u27.2.2.2.2.1, Ck.ol OI 3 A15 c15 u14.2.1, Ck.ol OI 3 A16 c16 u14.2.2.1, Ck.ol OI 3 A28 c28 u27.2.1, Ck.ol OI 3 A29 c29 u27.2.2.1, Ck.ov b2 [.int .i64 p0_0, .slice A0_1p p0_1.length c0_1p, .slice A0_2p p0_2.length c0_2p, .int .i64 p0_3] 29, Ck.ov b18 [.int .i64 u14.1, .slice A15 u14.2.1.length c15, .slice A16 u14.2.2.1.length c16, .int .i64 u14.2.2.2.1] 31, Ck.ov b31 [.int .i64 u27.1, .slice A28 u27.2.1.length c28, .slice A29 u27.2.2.1.length c29, .int .i64 u27.2.2.2.1] 31]) ?_ ?_
          · intro K91 hK91
            refine HT_region ?_
            refine HL_cons rfl ?_
            refine o_move ?_
            try dsimp only [putL, setL, evL, getL]
            refine HL_cons rfl ?_
            refine o_bin rfl rfl rfl ?_
            try dsimp only [putL, setL, evL, getL]
            refine HL_cons rfl ?_
            refine o_move ?_
            try dsimp only [putL, setL, evL, getL]
            rcases Bool.eq_false_or_eq_true (decide (u71.1 < 0)) with hb98 | hb98
            · replace H := iteT hb98 H
              refine HL_skip ?_ ?_
              · exact wantF (j := 2) (b := false) (t := 66) (c := decide (u71.1 < 0)) rfl rfl rfl rfl hb98
              try dsimp only [putL, setL, evL, getL]
              refine HL_skip ?_ ?_
              · exact wantF (j := 2) (b := false) (t := 66) (c := decide (u71.1 < 0)) rfl rfl rfl rfl hb98
              try dsimp only [putL, setL, evL, getL]
              refine HL_skip ?_ ?_
              · exact wantF (j := 2) (b := false) (t := 66) (c := decide (u71.1 < 0)) rfl rfl rfl rfl hb98
              try dsimp only [putL, setL, evL, getL]
              refine HL_skip ?_ ?_
              · exact wantF (j := 2) (b := false) (t := 66) (c := decide (u71.1 < 0)) rfl rfl rfl rfl hb98
              try dsimp only [putL, setL, evL, getL]
              refine HL_cons rfl ?_
              refine o_pickT rfl hb98 ?_
              try dsimp only [putL, setL, evL, getL]
              refine HL_cons rfl ?_
              refine o_move ?_
              try dsimp only [putL, setL, evL, getL]
              refine HL_skip ?_ ?_
              · exact wantF (j := 8) (b := false) (t := 72) (c := true) rfl rfl rfl rfl rfl
              try dsimp only [putL, setL, evL, getL]
              refine HL_skip ?_ ?_
              · exact wantF (j := 8) (b := false) (t := 72) (c := true) rfl rfl rfl rfl rfl
              try dsimp only [putL, setL, evL, getL]
              refine HL_skip ?_ ?_
              · exact wantF (j := 8) (b := false) (t := 72) (c := true) rfl rfl rfl rfl rfl
              try dsimp only [putL, setL, evL, getL]
              refine HL_skip ?_ ?_
              · exact wantF (j := 8) (b := false) (t := 72) (c := true) rfl rfl rfl rfl rfl
              try dsimp only [putL, setL, evL, getL]
              refine HL_cons rfl ?_
              refine o_pickT rfl rfl ?_
              try dsimp only [putL, setL, evL, getL]
              refine HL_cons rfl ?_
              refine o_move ?_
              try dsimp only [putL, setL, evL, getL]
              refine HL_skip ?_ ?_
              · exact wantF (j := 14) (b := false) (t := 78) (c := true) rfl rfl rfl rfl rfl
              try dsimp only [putL, setL, evL, getL]
              refine HL_skip ?_ ?_
              · exact wantF (j := 14) (b := false) (t := 78) (c := true) rfl rfl rfl rfl rfl
              try dsimp only [putL, setL, evL, getL]
              refine HL_skip ?_ ?_
              · exact wantF (j := 14) (b := false) (t := 78) (c := true) rfl rfl rfl rfl rfl
              try dsimp only [putL, setL, evL, getL]
              refine HL_cons rfl ?_
              refine o_pickT rfl rfl ?_
              try dsimp only [putL, setL, evL, getL]
              refine HL_nil ?_
              exact hK91 _ _ ⟨true, H, rfl, hH.sel [0, 1, 2, 3, 6, 7, 8, 9, 11] (by decide)⟩
            · replace H := iteF hb98 H
              refine HL_want ?_ ?_
              · exact wantT (j := 2) (b := false) (t := 66) (c := decide (u71.1 < 0)) rfl rfl rfl rfl hb98
              refine o_loads' [.int .i64 u27.1, .slice A28 u27.2.1.length c28, .slice A29 u27.2.2.1.length c29, .int .i64 u27.2.2.2.1] rfl Try.underlying31 rfl tI31 rfl (hH.partv 11 rfl (0) [.int .i64 u27.1, .slice A28 u27.2.1.length c28, .slice A29 u27.2.2.1.length c29, .int .i64 u27.2.2.2.1] rfl) ?_
              try dsimp only [putL, setL, evL, getL]
              refine HL_want ?_ ?_
              · exact wantT (j := 2) (b := false) (t := 66) (c := decide (u71.1 < 0)) rfl rfl rfl rfl hb98
              refine o_loads' [.int .i64 u14.1, .slice A15 u14.2.1.length c15, .slice A16 u14.2.2.1.length c16, .int .i64 u14.2.2.2.1] rfl Try.underlying31 rfl tI31 rfl (hH.partv 9 rfl (0) [.int .i64 u14.1, .slice A15 u14.2.1.length c15, .slice A16 u14.2.2.1.length c16, .int .i64 u14.2.2.2.1] rfl) ?_
              try dsimp only [putL, setL, evL, getL]
              obtain ⟨u99, hu99, H⟩ := headE H
              refine HL_want ?_ ?_
              · exact wantT (j := 2) (b := false) (t := 66) (c := decide (u71.1 < 0)) rfl rfl rfl rfl hb98
              refine o_call (args := #[.agg #[.int .i64 u27.1, .slice A28 u27.2.1.length c28, .slice A29 u27.2.2.1.length c29, .int .i64 u27.2.2.2.1], .agg #[.int .i64 u14.1, .slice A15 u14.2.1.length c15, .slice A16 u14.2.2.1.length c16, .int .i64 u14.2.2.2.1]]) Try.func25 rfl rfl rfl (laws_eqBuf.ok s71 s71 no u27.1 A28 c28 u27.2.1 A29 c29 u27.2.2.1 u27.2.2.2.1 u14.1 A15 c15 u14.2.1 A16 c16 u14.2.2.1 u14.2.2.2.1 (hH.rd 6 rfl) (hH.rd 7 rfl) (hH.rd 2 rfl) (hH.rd 3 rfl) (Hp.own (Bs.refl s71)) _ hu99) ?_
              rintro _ s99 ⟨rfl, hD⟩
              replace hH := hH.back0T hD
              clear hD
              dsimp only [addC, setC, rmC, selC, getC] at hH
              try dsimp only [putL, setL, evL, getL]
              refine HL_want ?_ ?_
              · exact wantT (j := 2) (b := false) (t := 66) (c := decide (u71.1 < 0)) rfl rfl rfl rfl hb98
              refine o_not rfl ?_
              try dsimp only [putL, setL, evL, getL]
              refine HL_cons rfl ?_
              refine o_pickF rfl hb98 ?_
              try dsimp only [putL, setL, evL, getL]
              refine HL_cons rfl ?_
              refine o_move ?_
              try dsimp only [putL, setL, evL, getL]
              rcases Bool.eq_false_or_eq_true (!u99) with hb100 | hb100
              · replace H := iteT hb100 H
                refine HL_skip ?_ ?_
                · exact wantF (j := 8) (b := false) (t := 72) (c := !u99) rfl rfl rfl rfl hb100
                try dsimp only [putL, setL, evL, getL]
                refine HL_skip ?_ ?_
                · exact wantF (j := 8) (b := false) (t := 72) (c := !u99) rfl rfl rfl rfl hb100
                try dsimp only [putL, setL, evL, getL]
                refine HL_skip ?_ ?_
                · exact wantF (j := 8) (b := false) (t := 72) (c := !u99) rfl rfl rfl rfl hb100
                try dsimp only [putL, setL, evL, getL]
                refine HL_skip ?_ ?_
                · exact wantF (j := 8) (b := false) (t := 72) (c := !u99) rfl rfl rfl rfl hb100
                try dsimp only [putL, setL, evL, getL]
                refine HL_cons rfl ?_
                refine o_pickT rfl hb100 ?_
                try dsimp only [putL, setL, evL, getL]
                refine HL_cons rfl ?_
                refine o_move ?_
                try dsimp only [putL, setL, evL, getL]
                refine HL_skip ?_ ?_
                · exact wantF (j := 14) (b := false) (t := 78) (c := true) rfl rfl rfl rfl rfl
                try dsimp only [putL, setL, evL, getL]
                refine HL_skip ?_ ?_
                · exact wantF (j := 14) (b := false) (t := 78) (c := true) rfl rfl rfl rfl rfl
                try dsimp only [putL, setL, evL, getL]
                refine HL_skip ?_ ?_
                · exact wantF (j := 14) (b := false) (t := 78) (c := true) rfl rfl rfl rfl rfl
                try dsimp only [putL, setL, evL, getL]
                refine HL_cons rfl ?_
                refine o_pickT rfl rfl ?_
                try dsimp only [putL, setL, evL, getL]
                refine HL_nil ?_
                exact hK91 _ _ ⟨true, H, rfl, hH.sel [0, 1, 2, 3, 6, 7, 8, 9, 11] (by decide)⟩
              · replace H := iteF hb100 H
                refine HL_want ?_ ?_
                · exact wantT (j := 8) (b := false) (t := 72) (c := !u99) rfl rfl rfl rfl hb100
                refine o_move ?_
                try dsimp only [putL, setL, evL, getL]
                refine HL_want ?_ ?_
                · exact wantT (j := 8) (b := false) (t := 72) (c := !u99) rfl rfl rfl rfl hb100
                refine o_move ?_
                try dsimp only [putL, setL, evL, getL]
                obtain ⟨u101, hu101, H⟩ := headE H
                refine HL_want ?_ ?_
                · exact wantT (j := 8) (b := false) (t := 72) (c := !u99) rfl rfl rfl rfl hb100
                refine o_call (args := #[.slice A30 u27.2.2.2.2.1.length c30, .slice A17 u14.2.2.2.2.1.length c17]) Try.func18 rfl rfl rfl (laws_eqIntS.ok s99 s99 no A30 c30 u27.2.2.2.2.1 A17 c17 u14.2.2.2.2.1 (hH.rd 1 rfl) (hH.rd 0 rfl) (Hp.own (Bs.refl s99)) _ hu101) ?_
                rintro _ s101 ⟨rfl, hD⟩
                replace hH := hH.back0T hD
                clear hD
                dsimp only [addC, setC, rmC, selC, getC] at hH
                try dsimp only [putL, setL, evL, getL]
                refine HL_want ?_ ?_
                · exact wantT (j := 8) (b := false) (t := 72) (c := !u99) rfl rfl rfl rfl hb100
                refine o_not rfl ?_
                try dsimp only [putL, setL, evL, getL]
                refine HL_cons rfl ?_
                refine o_pickF rfl hb100 ?_
                try dsimp only [putL, setL, evL, getL]
                refine HL_cons rfl ?_
                refine o_move ?_
                try dsimp only [putL, setL, evL, getL]
                rcases Bool.eq_false_or_eq_true (!u101) with hb102 | hb102
                · replace H := iteT hb102 H
                  refine HL_skip ?_ ?_
                  · exact wantF (j := 14) (b := false) (t := 78) (c := !u101) rfl rfl rfl rfl hb102
                  try dsimp only [putL, setL, evL, getL]
                  refine HL_skip ?_ ?_
                  · exact wantF (j := 14) (b := false) (t := 78) (c := !u101) rfl rfl rfl rfl hb102
                  try dsimp only [putL, setL, evL, getL]
                  refine HL_skip ?_ ?_
                  · exact wantF (j := 14) (b := false) (t := 78) (c := !u101) rfl rfl rfl rfl hb102
                  try dsimp only [putL, setL, evL, getL]
                  refine HL_cons rfl ?_
                  refine o_pickT rfl hb102 ?_
                  try dsimp only [putL, setL, evL, getL]
                  refine HL_nil ?_
                  exact hK91 _ _ ⟨true, H, rfl, hH.sel [0, 1, 2, 3, 6, 7, 8, 9, 11] (by decide)⟩
                · replace H := iteF hb102 H
                  refine HL_want ?_ ?_
                  · exact wantT (j := 14) (b := false) (t := 78) (c := !u101) rfl rfl rfl rfl hb102
                  refine o_move ?_
                  try dsimp only [putL, setL, evL, getL]
                  refine HL_want ?_ ?_
                  · exact wantT (j := 14) (b := false) (t := 78) (c := !u101) rfl rfl rfl rfl hb102
                  refine o_move ?_
                  try dsimp only [putL, setL, evL, getL]
                  refine HL_want ?_ ?_
                  · exact wantT (j := 14) (b := false) (t := 78) (c := !u101) rfl rfl rfl rfl hb102
                  refine o_neb rfl rfl Try.underlying4 ?_
                  try dsimp only [putL, setL, evL, getL]
                  refine HL_cons rfl ?_
                  refine o_pickF rfl hb102 ?_
                  try dsimp only [putL, setL, evL, getL]
                  refine HL_nil ?_
                  exact hK91 _ _ ⟨u27.2.2.2.2.2 != u14.2.2.2.2.2, H, rfl, hH.sel [0, 1, 2, 3, 6, 7, 8, 9, 11] (by decide)⟩
          · rintro l' s103 ⟨x97, H, hl, hH⟩
            generalize getL l' 64 = j64, getL l' 65 = j65, getL l' 66 = j66, getL l' 67 = j67, getL l' 68 = j68, getL l' 69 = j69, getL l' 70 = j70, getL l' 71 = j71, getL l' 72 = j72, getL l' 73 = j73, getL l' 74 = j74, getL l' 75 = j75, getL l' 76 = j76, getL l' 77 = j77, getL l' 78 = j78, getL l' 79 = j79, getL l' 80 = j80, getL l' 81 = j81 at hl
            subst hl
            replace H := hG91 _ H
            try dsimp only at H
            rcases Bool.eq_false_or_eq_true x97 with hb104 | hb104
            · replace H := iteT hb104 H
              refine HT_true (congrArg Value.bool hb104) ?_
              refine HT_seq_k ?_
              intro K105 hK105
              refine HT_region ?_
              refine HL_cons rfl ?_
              refine o_assign ?_
              try dsimp only [putL, setL, evL, getL]
              refine HL_nil ?_
              refine hK105 _ _ ?_
              refine HT_ret ?_
              obtain rfl := Option.some.inj (show some _ = some r from H)
              exact hQr _ _ [.bool false] ⟨rfl, trivial⟩ ⟨rfl, hH.sel [] (by decide)⟩
            · replace H := iteF hb104 H
              refine HT_false (congrArg Value.bool hb104) ?_
              refine HT_skip ?_
              refine hK90 _ _ ?_
              refine HT_seq_k ?_
              intro K106 hK106
              refine HT_region ?_
              refine HL_cons rfl ?_
              refine o_assign ?_
              try dsimp only [putL, setL, evL, getL]
              refine HL_nil ?_
              refine hK106 _ _ ?_
              refine HT_seq_k ?_
              intro K107 hK107
              refine HT_region ?_
              refine HL_cons rfl ?_
              refine o_loads' [.int .i64 u27.1, .slice A28 u27.2.1.length c28, .slice A29 u27.2.2.1.length c29, .int .i64 u27.2.2.2.1] rfl Try.underlying31 rfl tI31 rfl (hH.partv 8 rfl (0) [.int .i64 u27.1, .slice A28 u27.2.1.length c28, .slice A29 u27.2.2.1.length c29, .int .i64 u27.2.2.2.1] rfl) ?_
              try dsimp only [putL, setL, evL, getL]
              refine HL_cons rfl ?_
              refine o_move ?_
              try dsimp only [putL, setL, evL, getL]
              obtain ⟨u108, hu108, H⟩ := headE H
              obtain ⟨F1, hA, hB⟩ := hH.take [4, 5] (by decide)
              dsimp only [addC, setC, rmC, selC, getC] at hA
              refine HL_cons rfl ?_
              refine o_call (args := #[.agg #[.int .i64 u27.1, .slice A28 u27.2.1.length c28, .slice A29 u27.2.2.1.length c29, .int .i64 u27.2.2.2.1], .int .i64 1]) Try.func26 rfl rfl rfl (laws_markBuf.ok sb s103 F1 u27.1 A28 c28 u27.2.1 A29 c29 u27.2.2.1 u27.2.2.2.1 1 hA _ hu108) ?_
              rintro _ s108 ⟨rfl, hD, hl109, hl110⟩
              replace hH := hB _ _ _ (Up.refl _ _ _) hD
              clear hD hA hB
              dsimp only [addC, setC, rmC, selC, getC] at hH
              try dsimp only [putL, setL, evL, getL]
              refine HL_cons rfl ?_
              refine o_assign ?_
              try dsimp only [putL, setL, evL, getL]
              refine HL_nil ?_
              refine hK107 _ _ ?_
              refine HT_seq_k ?_
              intro K111 hK111
              refine HT_region ?_
              refine HL_cons rfl ?_
              refine o_move ?_
              try dsimp only [putL, setL, evL, getL]
              refine HL_cons rfl ?_
              refine o_move ?_
              try dsimp only [putL, setL, evL, getL]
              obtain ⟨u112, hu112, H⟩ := headE H
              obtain ⟨F1, hA, hB⟩ := hH.take [1] (by decide)
              dsimp only [addC, setC, rmC, selC, getC] at hA
              refine HL_cons rfl ?_
              refine o_call (args := #[.slice A30 u27.2.2.2.2.1.length c30, .int .i64 u108.1]) Try.func19 rfl rfl rfl (laws_markIntS.ok sb s108 F1 A30 c30 u27.2.2.2.2.1 u108.1 hA _ hu112) ?_
              rintro _ s112 ⟨rfl, hD, hl113⟩
              replace hH := hB _ _ _ (Up.refl _ _ _) hD
              clear hD hA hB
              dsimp only [addC, setC, rmC, selC, getC] at hH
              try dsimp only [putL, setL, evL, getL]
              refine HL_cons rfl ?_
              refine o_assign ?_
              try dsimp only [putL, setL, evL, getL]
              refine HL_nil ?_
              refine hK111 _ _ ?_
              refine HT_seq_k ?_
              intro K114 hK114
              refine HT_region ?_
              refine HL_cons rfl ?_
              refine o_assign ?_
              try dsimp only [putL, setL, evL, getL]
              refine HL_nil ?_
              refine hK114 _ _ ?_
              refine HT_seq_k ?_
              intro K115 hK115
              refine HT_region ?_
              refine HL_cons rfl ?_
              refine o_loads' [.int .i64 u27.1, .slice A28 u27.2.1.length c28, .slice A29 u27.2.2.1.length c29, .int .i64 u27.2.2.2.1] rfl Try.underlying31 rfl tI31 rfl (hH.partv 8 rfl (0) [.int .i64 u27.1, .slice A28 u27.2.1.length c28, .slice A29 u27.2.2.1.length c29, .int .i64 u27.2.2.2.1] rfl) ?_
              try dsimp only [putL, setL, evL, getL]
              refine HL_cons rfl ?_
              refine o_move ?_
              try dsimp only [putL, setL, evL, getL]
              obtain ⟨u116, hu116, H⟩ := headE H
              refine HL_cons rfl ?_
              refine o_call (args := #[.agg #[.int .i64 u27.1, .slice A28 u108.2.1.length c28, .slice A29 u108.2.2.length c29, .int .i64 u27.2.2.2.1], .int .i64 1]) Try.func27 rfl rfl (by show ([.agg #[.int .i64 u27.1, .slice A28 u27.2.1.length c28, .slice A29 u27.2.2.1.length c29, .int .i64 u27.2.2.2.1], .int .i64 1] : List Value) = [.agg #[.int .i64 u27.1, .slice A28 u108.2.1.length c28, .slice A29 u108.2.2.length c29, .int .i64 u27.2.2.2.1], .int .i64 1]; rw [hl109, hl110]; first | done | rfl) (laws_heldBuf.ok s112 s112 no u27.1 A28 c28 u108.2.1 A29 c29 u108.2.2 u27.2.2.2.1 1 (hH.rd 9 rfl) (hH.rd 10 rfl) (Hp.own (Bs.refl s112)) _ hu116) ?_
              rintro _ s116 ⟨rfl, hD⟩
              replace hH := hH.back0T hD
              clear hD
              dsimp only [addC, setC, rmC, selC, getC] at hH
              try dsimp only [putL, setL, evL, getL]
              refine HL_cons rfl ?_
              refine o_assign ?_
              try dsimp only [putL, setL, evL, getL]
              refine HL_nil ?_
              refine hK115 _ _ ?_
              refine HT_seq_k ?_
              intro K117 hK117
              refine HT_seq_k ?_
              intro K118 hK118
              refine HT_region ?_
              refine HL_cons rfl ?_
              refine o_move ?_
              try dsimp only [putL, setL, evL, getL]
              refine HL_cons rfl ?_
              refine o_bin rfl rfl rfl ?_
              try dsimp only [putL, setL, evL, getL]
              refine HL_nil ?_
              refine hK118 _ _ ?_
              rcases Bool.eq_false_or_eq_true (decide (u116 < 0)) with hb119 | hb119
              · replace H := iteT hb119 H
                refine HT_true (congrArg Value.bool hb119) ?_
                refine HT_seq_k ?_
                intro K120 hK120
                refine HT_region ?_
                refine HL_cons rfl ?_
                refine o_assign ?_
                try dsimp only [putL, setL, evL, getL]
                refine HL_nil ?_
                refine hK120 _ _ ?_
                refine HT_ret ?_
                obtain rfl := Option.some.inj (show some _ = some r from H)
                exact hQr _ _ [.bool false] ⟨rfl, trivial⟩ ⟨rfl, hH.sel [] (by decide)⟩
              · replace H := iteF hb119 H
                refine HT_false (congrArg Value.bool hb119) ?_
                refine HT_skip ?_
                refine hK117 _ _ ?_
                refine HT_seq_k ?_
                intro K121 hK121
                refine HT_region ?_
                refine HL_cons rfl ?_
                refine o_move ?_
                try dsimp only [putL, setL, evL, getL]
                refine HL_cons rfl ?_
                refine o_move ?_
                try dsimp only [putL, setL, evL, getL]
                obtain ⟨u122, hu122, H⟩ := headE H
                refine HL_cons rfl ?_
                refine o_call (args := #[.slice A30 u112.2.length c30, .int .i64 u116]) Try.func20 rfl rfl (by show ([.slice A30 u27.2.2.2.2.1.length c30, .int .i64 u116] : List Value) = [.slice A30 u112.2.length c30, .int .i64 u116]; rw [hl113]; first | done | rfl) (laws_heldIntS.ok s116 s116 no A30 c30 u112.2 u116 (hH.rd 11 rfl) (Hp.own (Bs.refl s116)) _ hu122) ?_
                rintro _ s122 ⟨rfl, hD⟩
                replace hH := hH.back0T hD
                clear hD
                dsimp only [addC, setC, rmC, selC, getC] at hH
                try dsimp only [putL, setL, evL, getL]
                refine HL_cons rfl ?_
                refine o_assign ?_
                try dsimp only [putL, setL, evL, getL]
                refine HL_nil ?_
                refine hK121 _ _ ?_
                refine HT_seq_k ?_
                intro K123 hK123
                refine HT_seq_k ?_
                intro K124 hK124
                refine HT_region ?_
                refine HL_cons rfl ?_
                refine o_move ?_
                try dsimp only [putL, setL, evL, getL]
                refine HL_cons rfl ?_
                refine o_bin rfl rfl rfl ?_
                try dsimp only [putL, setL, evL, getL]
                refine HL_nil ?_
                refine hK124 _ _ ?_
                rcases Bool.eq_false_or_eq_true (decide (u122 < 0)) with hb125 | hb125
                · replace H := iteT hb125 H
                  refine HT_true (congrArg Value.bool hb125) ?_
                  refine HT_seq_k ?_
                  intro K126 hK126
                  refine HT_region ?_
                  refine HL_cons rfl ?_
                  refine o_assign ?_
                  try dsimp only [putL, setL, evL, getL]
                  refine HL_nil ?_
                  refine hK126 _ _ ?_
                  refine HT_ret ?_
                  obtain rfl := Option.some.inj (show some _ = some r from H)
                  exact hQr _ _ [.bool false] ⟨rfl, trivial⟩ ⟨rfl, hH.sel [] (by decide)⟩
                · replace H := iteF hb125 H
                  refine HT_false (congrArg Value.bool hb125) ?_
                  refine HT_skip ?_
                  refine hK123 _ _ ?_
                  refine HT_seq_k ?_
                  intro K127 hK127
                  refine HT_seq_k ?_
                  intro K128 hK128
                  refine HT_region ?_
                  refine HL_cons rfl ?_
                  refine o_move ?_
                  try dsimp only [putL, setL, evL, getL]
                  refine HL_cons rfl ?_
                  refine o_move ?_
                  try dsimp only [putL, setL, evL, getL]
                  refine HL_cons rfl ?_
                  refine o_bin rfl rfl rfl ?_
                  try dsimp only [putL, setL, evL, getL]
                  refine HL_nil ?_
                  refine hK128 _ _ ?_
                  rcases Bool.eq_false_or_eq_true (u122 != u112.1) with hb129 | hb129
                  · replace H := iteT hb129 H
                    refine HT_true (congrArg Value.bool hb129) ?_
                    refine HT_seq_k ?_
                    intro K130 hK130
                    refine HT_region ?_
                    refine HL_cons rfl ?_
                    refine o_assign ?_
                    try dsimp only [putL, setL, evL, getL]
                    refine HL_nil ?_
                    refine hK130 _ _ ?_
                    refine HT_ret ?_
                    obtain rfl := Option.some.inj (show some _ = some r from H)
                    exact hQr _ _ [.bool false] ⟨rfl, trivial⟩ ⟨rfl, hH.sel [] (by decide)⟩
                  · replace H := iteF hb129 H
                    refine HT_false (congrArg Value.bool hb129) ?_
                    refine HT_skip ?_
                    refine hK127 _ _ ?_
                    refine HT_seq_k ?_
                    intro K131 hK131
                    refine HT_region ?_
                    refine HL_cons rfl ?_
                    refine o_loads' [.int .i64 p0_0, .slice A0_1p p0_1.length c0_1p, .slice A0_2p p0_2.length c0_2p, .int .i64 p0_3] rfl Try.underlying29 rfl tI29 rfl (hH.partv 6 rfl (0) [.int .i64 p0_0, .slice A0_1p p0_1.length c0_1p, .slice A0_2p p0_2.length c0_2p, .int .i64 p0_3] rfl) ?_
                    try dsimp only [putL, setL, evL, getL]
                    obtain ⟨u132, hu132, H⟩ := headE H
                    refine HL_cons rfl ?_
                    refine o_call (args := #[.agg #[.int .i64 p0_0, .slice A0_1p p0_1.length c0_1p, .slice A0_2p p0_2.length c0_2p, .int .i64 p0_3]]) Try.func23 rfl rfl rfl (laws_toBuf.ok sb s122 no p0_0 A0_1p c0_1p p0_1 A0_2p c0_2p p0_2 p0_3 HRp0_1 HRp0_2 (Hp.own hH.bs) _ hu132) ?_
                    rintro _ s132 ⟨A133, c133, A134, c134, rfl, hD⟩
                    replace hH := hH.back0 hD (Up.refl _ _ _)
                    clear hD
                    dsimp only [addC, setC, rmC, selC, getC] at hH
                    try dsimp only [putL, setL, evL, getL]
                    refine HL_cons rfl ?_
                    refine o_move ?_
                    try dsimp only [putL, setL, evL, getL]
                    obtain ⟨u135, hu135, H⟩ := headE H
                    refine HL_cons rfl ?_
                    refine o_call (args := #[.agg #[.int .i64 u132.1, .slice A133 u132.2.1.length c133, .slice A134 u132.2.2.1.length c134, .int .i64 u132.2.2.2], .int .i64 p1]) Try.func24 rfl rfl rfl (impl_TakeBuf.ok s132 s132 no u132.1 A133 c133 u132.2.1 A134 c134 u132.2.2.1 u132.2.2.2 p1 (hH.rd 12 rfl) (hH.rd 13 rfl) (Hp.own (Bs.refl s132)) _ hu135) ?_
                    rintro _ s135 ⟨A136, c136, A137, c137, A138, c138, rfl, hD⟩
                    replace hH := hH.back0T hD
                    clear hD
                    dsimp only [addC, setC, rmC, selC, getC] at hH
                    try dsimp only [putL, setL, evL, getL]
                    refine HL_cons rfl ?_
                    refine o_move ?_
                    try dsimp only [putL, setL, evL, getL]
                    refine HL_cons rfl ?_
                    refine o_extract rfl rfl ?_
                    try dsimp only [putL, setL, evL, getL]
                    refine HL_cons rfl ?_
                    refine o_extract rfl rfl ?_
                    try dsimp only [putL, setL, evL, getL]
                    refine HL_cons rfl ?_
                    refine o_extract rfl rfl ?_
                    try dsimp only [putL, setL, evL, getL]
                    refine HL_cons rfl ?_
                    refine o_allocH hH tI31 ?_
                    intro b139 s139 hH' hG
                    replace hH : Hp sb s F0 s139 [Ck.ol OI 3 A17 c17 u14.2.2.2.2.1, Ck.emp, Ck.ol OI 3 A15 c15 u14.2.1, Ck.ol OI 3 A16 c16 u14.2.2.1, Ck.emp, Ck.emp, Ck.ov b2 [.int .i64 p0_0, .slice A0_1p p0_1.length c0_1p, .slice A0_2p p0_2.length c0_2p, .int .i64 p0_3] 29, Ck.ov b18 [.int .i64 u14.1, .slice A15 u14.2.1.length c15, .slice A16 u14.2.2.1.length c16, .int .i64 u14.2.2.2.1] 31, Ck.ov b31 [.int .i64 u27.1, .slice A28 u27.2.1.length c28, .slice A29 u27.2.2.1.length c29, .int .i64 u27.2.2.2.1] 31, Ck.ol OI 3 A28 c28 u108.2.1, Ck.ol OI 3 A29 c29 u108.2.2, Ck.ol OI 3 A30 c30 u112.2, Ck.ol OI 3 A133 c133 u132.2.1, Ck.ol OI 3 A134 c134 u132.2.2.1, Ck.ol OI 3 A136 c136 u135.2.1, Ck.ol OI 3 A137 c137 u135.2.2.1, Ck.ol OI 3 A138 c138 u135.2.2.2.2.1, Ck.ov b139 [.int .i64 0, .slice none 0 0, .slice none 0 0, .int .i64 0] 31] := hH'
                    clear hH' hG
                    try dsimp only [putL, setL, evL, getL]
                    refine HL_cons rfl ?_
                    refine o_stvH (vs := [.int .i64 u135.1, .slice A136 u135.2.1.length c136, .slice A137 u135.2.2.1.length c137, .int .i64 u135.2.2.2.1]) (us' := [.int .i64 u135.1, .slice A136 u135.2.1.length c136, .slice A137 u135.2.2.1.length c137, .int .i64 u135.2.2.2.1]) hH 17 rfl rfl rfl rfl rfl tI31 rfl (List.cons_ne_nil _ _) rfl rfl rfl ?_
                    intro s140 hH'
                    replace hH : Hp sb s F0 s140 [Ck.ol OI 3 A17 c17 u14.2.2.2.2.1, Ck.emp, Ck.ol OI 3 A15 c15 u14.2.1, Ck.ol OI 3 A16 c16 u14.2.2.1, Ck.emp, Ck.emp, Ck.ov b2 [.int .i64 p0_0, .slice A0_1p p0_1.length c0_1p, .slice A0_2p p0_2.length c0_2p, .int .i64 p0_3] 29, Ck.ov b18 [.int .i64 u14.1, .slice A15 u14.2.1.length c15, .slice A16 u14.2.2.1.length c16, .int .i64 u14.2.2.2.1] 31, Ck.ov b31 [.int .i64 u27.1, .slice A28 u27.2.1.length c28, .slice A29 u27.2.2.1.length c29, .int .i64 u27.2.2.2.1] 31, Ck.ol OI 3 A28 c28 u108.2.1, Ck.ol OI 3 A29 c29 u108.2.2, Ck.ol OI 3 A30 c30 u112.2, Ck.ol OI 3 A133 c133 u132.2.1, Ck.ol OI 3 A134 c134 u132.2.2.1, Ck.ol OI 3 A136 c136 u135.2.1, Ck.ol OI 3 A137 c137 u135.2.2.1, Ck.ol OI 3 A138 c138 u135.2.2.2.2.1, Ck.ov b139 [.int .i64 u135.1, .slice A136 u135.2.1.length c136, .slice A137 u135.2.2.1.length c137, .int .i64 u135.2.2.2.1] 31] := hH'
                    clear hH'
                    try dsimp only [putL, setL, evL, getL]
                    refine HL_cons rfl ?_
                    refine o_assign ?_
                    try dsimp only [putL, setL, evL, getL]
                    refine HL_cons rfl ?_
                    refine o_assign ?_
                    try dsimp only [putL, setL, evL, getL]
                    refine HL_nil ?_
                    refine hK131 _ _ ?_
                    refine HT_seq_k ?_
                    intro K155 hK155
                    refine joinH H fun G156 hG156 H => ?_
                    refine HT_joinK (fun l' s' => ∃ (x161 : Bool), G156 x161 = some r ∧ l' = [.agg #[.int .i64 p0_0, .slice A0_1p p0_1.length c0_1p, .slice A0_2p p0_2.length c0_2p, .int .i64 p0_3], .int .i64 p1, .pointer (some ⟨b2, 0, none⟩), undef, .bool false, .int .i64 u5, .pointer (some ⟨b18, 0, none⟩), .slice A17 u14.2.2.2.2.1.length c17, .bool u14.2.2.2.2.2, .pointer (some ⟨b24, 0, none⟩), .pointer (some ⟨b31, 0, none⟩), .slice A30 u27.2.2.2.2.1.length c30, .bool u27.2.2.2.2.2, .int .i64 u71.1, .int .i64 u112.1, .int .i64 u122, .pointer (some ⟨b139, 0, none⟩), .slice A138 u135.2.2.2.2.1.length c138, .bool u135.2.2.2.2.2, .agg #[.int .i64 p0_0, .slice A0_1p p0_1.length c0_1p, .slice A0_2p p0_2.length c0_2p, .int .i64 p0_3], .int .i64 1048576, .int .i64 u5, .int .i64 u5, .bool (decide (u5 < 0)), .tuple #[.agg #[.int .i64 u14.1, .slice A15 u14.2.1.length c15, .slice A16 u14.2.2.1.length c16, .int .i64 u14.2.2.2.1], .slice A17 u14.2.2.2.2.1.length c17, .bool u14.2.2.2.2.2], .agg #[.int .i64 p0_0, .slice A0_1p p0_1.length c0_1p, .slice A0_2p p0_2.length c0_2p, .int .i64 p0_3], .agg #[.int .i64 u11.1, .slice A12 u11.2.1.length c12, .slice A13 u11.2.2.1.length c13, .int .i64 u11.2.2.2], .int .i64 p1, .tuple #[.agg #[.int .i64 u14.1, .slice A15 u14.2.1.length c15, .slice A16 u14.2.2.1.length c16, .int .i64 u14.2.2.2.1], .slice A17 u14.2.2.2.2.1.length c17, .bool u14.2.2.2.2.2], .agg #[.int .i64 u14.1, .slice A15 u14.2.1.length c15, .slice A16 u14.2.2.1.length c16, .int .i64 u14.2.2.2.1], .slice A17 u14.2.2.2.2.1.length c17, .bool u14.2.2.2.2.2, .agg #[.int .i64 p0_0, .slice A0_1p p0_1.length c0_1p, .slice A0_2p p0_2.length c0_2p, .int .i64 p0_3], .agg #[.int .i64 u21.1, .slice A22 u21.2.1.length c22, .slice A23 u21.2.2.1.length c23, .int .i64 u21.2.2.2], .tuple #[.agg #[.int .i64 u27.1, .slice A28 u27.2.1.length c28, .slice A29 u27.2.2.1.length c29, .int .i64 u27.2.2.2.1], .slice A30 u27.2.2.2.2.1.length c30, .bool u27.2.2.2.2.2], .agg #[.int .i64 u21.1, .slice A22 u21.2.1.length c22, .slice A23 u21.2.2.1.length c23, .int .i64 u21.2.2.2], .int .i64 p1, .tuple #[.agg #[.int .i64 u27.1, .slice A28 u27.2.1.length c28, .slice A29 u27.2.2.1.length c29, .int .i64 u27.2.2.2.1], .slice A30 u27.2.2.2.2.1.length c30, .bool u27.2.2.2.2.2], .agg #[.int .i64 u27.1, .slice A28 u27.2.1.length c28, .slice A29 u27.2.2.1.length c29, .int .i64 u27.2.2.2.1], .slice A30 u27.2.2.2.2.1.length c30, .bool u27.2.2.2.2.2, j41, j42, j43, j44, j45, j46, j47, j48, j49, j50, j51, j52, j53, j54, .bool x53, .agg #[.int .i64 u21.1, .slice A22 u21.2.1.length c22, .slice A23 u21.2.2.1.length c23, .int .i64 u21.2.2.2], .agg #[.int .i64 p0_0, .slice A0_1p p0_1.length c0_1p, .slice A0_2p p0_2.length c0_2p, .int .i64 p0_3], .agg #[.int .i64 u63.1, .slice A64 u63.2.1.length c64, .slice A65 u63.2.2.1.length c65, .int .i64 u63.2.2.2], .bool u66, .bool (!u66), .agg #[.int .i64 u21.1, .slice A22 u21.2.1.length c22, .slice A23 u21.2.2.1.length c23, .int .i64 u21.2.2.2], .int .i64 1, .int .i64 u71.1, j64, j65, j66, j67, j68, j69, j70, j71, j72, j73, j74, j75, j76, j77, j78, j79, j80, j81, .bool x97, .agg #[.int .i64 u27.1, .slice A28 u27.2.1.length c28, .slice A29 u27.2.2.1.length c29, .int .i64 u27.2.2.2.1], .int .i64 1, .int .i64 u108.1, .slice A30 u27.2.2.2.2.1.length c30, .int .i64 u108.1, .int .i64 u112.1, .agg #[.int .i64 u27.1, .slice A28 u27.2.1.length c28, .slice A29 u27.2.2.1.length c29, .int .i64 u27.2.2.2.1], .int .i64 1, .int .i64 u116, .int .i64 u116, .bool (decide (u116 < 0)), .slice A30 u27.2.2.2.2.1.length c30, .int .i64 u116, .int .i64 u122, .int .i64 u122, .bool (decide (u122 < 0)), .int .i64 u122, .int .i64 u112.1, .bool (u122 != u112.1), .tuple #[.agg #[.int .i64 u135.1, .slice A136 u135.2.1.length c136, .slice A137 u135.2.2.1.length c137, .int .i64 u135.2.2.2.1], .slice A138 u135.2.2.2.2.1.length c138, .bool u135.2.2.2.2.2], .agg #[.int .i64 p0_0, .slice A0_1p p0_1.length c0_1p, .slice A0_2p p0_2.length c0_2p, .int .i64 p0_3], .agg #[.int .i64 u132.1, .slice A133 u132.2.1.length c133, .slice A134 u132.2.2.1.length c134, .int .i64 u132.2.2.2], .int .i64 p1, .tuple #[.agg #[.int .i64 u135.1, .slice A136 u135.2.1.length c136, .slice A137 u135.2.2.1.length c137, .int .i64 u135.2.2.2.1], .slice A138 u135.2.2.2.2.1.length c138, .bool u135.2.2.2.2.2], .agg #[.int .i64 u135.1, .slice A136 u135.2.1.length c136, .slice A137 u135.2.2.1.length c137, .int .i64 u135.2.2.2.1], .slice A138 u135.2.2.2.2.1.length c138, .bool u135.2.2.2.2.2, getL l' 110, getL l' 111, getL l' 112, getL l' 113, getL l' 114, getL l' 115, getL l' 116, getL l' 117, getL l' 118, getL l' 119, getL l' 120, getL l' 121, getL l' 122, getL l' 123, .bool x161, undef, undef, undef, undef, undef, undef, undef, undef, undef, undef, undef, undef, undef] ∧ Hp sb s F0 s' [Ck.ol OI 3 A30 c30 u112.2, Ck.ol OI 3 A28 c28 u108.2.1, Ck.ol OI 3 A29 c29 u108.2.2, Ck.ov b31 [.int .i64 u27.1, .slice A28 u27.2.1.length c28, .slice A29 u27.2.2.1.length c29, .int .i64 u27.2.2.2.1] 31]) ?_ ?_
                    · intro K156 hK156
                      refine HT_region ?_
                      refine HL_cons rfl ?_
                      refine o_loads' [.int .i64 u135.1, .slice A136 u135.2.1.length c136, .slice A137 u135.2.2.1.length c137, .int .i64 u135.2.2.2.1] rfl Try.underlying31 rfl tI31 rfl (hH.partv 17 rfl (0) [.int .i64 u135.1, .slice A136 u135.2.1.length c136, .slice A137 u135.2.2.1.length c137, .int .i64 u135.2.2.2.1] rfl) ?_
                      try dsimp only [putL, setL, evL, getL]
                      refine HL_cons rfl ?_
                      refine o_loads' [.int .i64 u14.1, .slice A15 u14.2.1.length c15, .slice A16 u14.2.2.1.length c16, .int .i64 u14.2.2.2.1] rfl Try.underlying31 rfl tI31 rfl (hH.partv 7 rfl (0) [.int .i64 u14.1, .slice A15 u14.2.1.length c15, .slice A16 u14.2.2.1.length c16, .int .i64 u14.2.2.2.1] rfl) ?_
                      try dsimp only [putL, setL, evL, getL]
                      obtain ⟨u162, hu162, H⟩ := headE H
                      refine HL_cons rfl ?_
                      refine o_call (args := #[.agg #[.int .i64 u135.1, .slice A136 u135.2.1.length c136, .slice A137 u135.2.2.1.length c137, .int .i64 u135.2.2.2.1], .agg #[.int .i64 u14.1, .slice A15 u14.2.1.length c15, .slice A16 u14.2.2.1.length c16, .int .i64 u14.2.2.2.1]]) Try.func25 rfl rfl rfl (laws_eqBuf.ok s140 s140 no u135.1 A136 c136 u135.2.1 A137 c137 u135.2.2.1 u135.2.2.2.1 u14.1 A15 c15 u14.2.1 A16 c16 u14.2.2.1 u14.2.2.2.1 (hH.rd 14 rfl) (hH.rd 15 rfl) (hH.rd 2 rfl) (hH.rd 3 rfl) (Hp.own (Bs.refl s140)) _ hu162) ?_
                      rintro _ s162 ⟨rfl, hD⟩
                      replace hH := hH.back0T hD
                      clear hD
                      dsimp only [addC, setC, rmC, selC, getC] at hH
                      try dsimp only [putL, setL, evL, getL]
                      refine HL_cons rfl ?_
                      refine o_not rfl ?_
                      try dsimp only [putL, setL, evL, getL]
                      refine HL_cons rfl ?_
                      refine o_move ?_
                      try dsimp only [putL, setL, evL, getL]
                      rcases Bool.eq_false_or_eq_true (!u162) with hb163 | hb163
                      · replace H := iteT hb163 H
                        refine HL_skip ?_ ?_
                        · exact wantF (j := 4) (b := false) (t := 114) (c := !u162) rfl rfl rfl rfl hb163
                        try dsimp only [putL, setL, evL, getL]
                        refine HL_skip ?_ ?_
                        · exact wantF (j := 4) (b := false) (t := 114) (c := !u162) rfl rfl rfl rfl hb163
                        try dsimp only [putL, setL, evL, getL]
                        refine HL_skip ?_ ?_
                        · exact wantF (j := 4) (b := false) (t := 114) (c := !u162) rfl rfl rfl rfl hb163
                        try dsimp only [putL, setL, evL, getL]
                        refine HL_skip ?_ ?_
                        · exact wantF (j := 4) (b := false) (t := 114) (c := !u162) rfl rfl rfl rfl hb163
                        try dsimp only [putL, setL, evL, getL]
                        refine HL_cons rfl ?_
                        refine o_pickT rfl hb163 ?_
                        try dsimp only [putL, setL, evL, getL]
                        refine HL_cons rfl ?_
                        refine o_move ?_
                        try dsimp only [putL, setL, evL, getL]
                        refine HL_skip ?_ ?_
                        · exact wantF (j := 10) (b := false) (t := 120) (c := true) rfl rfl rfl rfl rfl
                        try dsimp only [putL, setL, evL, getL]
                        refine HL_skip ?_ ?_
                        · exact wantF (j := 10) (b := false) (t := 120) (c := true) rfl rfl rfl rfl rfl
                        try dsimp only [putL, setL, evL, getL]
                        refine HL_skip ?_ ?_
                        · exact wantF (j := 10) (b := false) (t := 120) (c := true) rfl rfl rfl rfl rfl
                        try dsimp only [putL, setL, evL, getL]
                        refine HL_cons rfl ?_
                        refine o_pickT rfl rfl ?_
                        try dsimp only [putL, setL, evL, getL]
                        refine HL_nil ?_
                        exact hK156 _ _ ⟨true, H, rfl, hH.sel [11, 9, 10, 8] (by decide)⟩
                      · replace H := iteF hb163 H
                        refine HL_want ?_ ?_
                        · exact wantT (j := 4) (b := false) (t := 114) (c := !u162) rfl rfl rfl rfl hb163
                        refine o_move ?_
                        try dsimp only [putL, setL, evL, getL]
                        refine HL_want ?_ ?_
                        · exact wantT (j := 4) (b := false) (t := 114) (c := !u162) rfl rfl rfl rfl hb163
                        refine o_move ?_
                        try dsimp only [putL, setL, evL, getL]
                        obtain ⟨u164, hu164, H⟩ := headE H
                        refine HL_want ?_ ?_
                        · exact wantT (j := 4) (b := false) (t := 114) (c := !u162) rfl rfl rfl rfl hb163
                        refine o_call (args := #[.slice A138 u135.2.2.2.2.1.length c138, .slice A17 u14.2.2.2.2.1.length c17]) Try.func18 rfl rfl rfl (laws_eqIntS.ok s162 s162 no A138 c138 u135.2.2.2.2.1 A17 c17 u14.2.2.2.2.1 (hH.rd 16 rfl) (hH.rd 0 rfl) (Hp.own (Bs.refl s162)) _ hu164) ?_
                        rintro _ s164 ⟨rfl, hD⟩
                        replace hH := hH.back0T hD
                        clear hD
                        dsimp only [addC, setC, rmC, selC, getC] at hH
                        try dsimp only [putL, setL, evL, getL]
                        refine HL_want ?_ ?_
                        · exact wantT (j := 4) (b := false) (t := 114) (c := !u162) rfl rfl rfl rfl hb163
                        refine o_not rfl ?_
                        try dsimp only [putL, setL, evL, getL]
                        refine HL_cons rfl ?_
                        refine o_pickF rfl hb163 ?_
                        try dsimp only [putL, setL, evL, getL]
                        refine HL_cons rfl ?_
                        refine o_move ?_
                        try dsimp only [putL, setL, evL, getL]
                        rcases Bool.eq_false_or_eq_true (!u164) with hb165 | hb165
                        · replace H := iteT hb165 H
                          refine HL_skip ?_ ?_
                          · exact wantF (j := 10) (b := false) (t := 120) (c := !u164) rfl rfl rfl rfl hb165
                          try dsimp only [putL, setL, evL, getL]
                          refine HL_skip ?_ ?_
                          · exact wantF (j := 10) (b := false) (t := 120) (c := !u164) rfl rfl rfl rfl hb165
                          try dsimp only [putL, setL, evL, getL]
                          refine HL_skip ?_ ?_
                          · exact wantF (j := 10) (b := false) (t := 120) (c := !u164) rfl rfl rfl rfl hb165
                          try dsimp only [putL, setL, evL, getL]
                          refine HL_cons rfl ?_
                          refine o_pickT rfl hb165 ?_
                          try dsimp only [putL, setL, evL, getL]
                          refine HL_nil ?_
                          exact hK156 _ _ ⟨true, H, rfl, hH.sel [11, 9, 10, 8] (by decide)⟩
                        · replace H := iteF hb165 H
                          refine HL_want ?_ ?_
                          · exact wantT (j := 10) (b := false) (t := 120) (c := !u164) rfl rfl rfl rfl hb165
                          refine o_move ?_
                          try dsimp only [putL, setL, evL, getL]
                          refine HL_want ?_ ?_
                          · exact wantT (j := 10) (b := false) (t := 120) (c := !u164) rfl rfl rfl rfl hb165
                          refine o_move ?_
                          try dsimp only [putL, setL, evL, getL]
                          refine HL_want ?_ ?_
                          · exact wantT (j := 10) (b := false) (t := 120) (c := !u164) rfl rfl rfl rfl hb165
                          refine o_neb rfl rfl Try.underlying4 ?_
                          try dsimp only [putL, setL, evL, getL]
                          refine HL_cons rfl ?_
                          refine o_pickF rfl hb165 ?_
                          try dsimp only [putL, setL, evL, getL]
                          refine HL_nil ?_
                          exact hK156 _ _ ⟨u135.2.2.2.2.2 != u14.2.2.2.2.2, H, rfl, hH.sel [11, 9, 10, 8] (by decide)⟩
                    · rintro l' s166 ⟨x161, H, hl, hH⟩
                      generalize getL l' 110 = j110, getL l' 111 = j111, getL l' 112 = j112, getL l' 113 = j113, getL l' 114 = j114, getL l' 115 = j115, getL l' 116 = j116, getL l' 117 = j117, getL l' 118 = j118, getL l' 119 = j119, getL l' 120 = j120, getL l' 121 = j121, getL l' 122 = j122, getL l' 123 = j123 at hl
                      subst hl
                      replace H := hG156 _ H
                      try dsimp only at H
                      rcases Bool.eq_false_or_eq_true x161 with hb167 | hb167
                      · replace H := iteT hb167 H
                        refine HT_true (congrArg Value.bool hb167) ?_
                        refine HT_seq_k ?_
                        intro K168 hK168
                        refine HT_region ?_
                        refine HL_cons rfl ?_
                        refine o_assign ?_
                        try dsimp only [putL, setL, evL, getL]
                        refine HL_nil ?_
                        refine hK168 _ _ ?_
                        refine HT_ret ?_
                        obtain rfl := Option.some.inj (show some _ = some r from H)
                        exact hQr _ _ [.bool false] ⟨rfl, trivial⟩ ⟨rfl, hH.sel [] (by decide)⟩
                      · replace H := iteF hb167 H
                        refine HT_false (congrArg Value.bool hb167) ?_
                        refine HT_skip ?_
                        refine hK155 _ _ ?_
                        refine HT_seq_k ?_
                        intro K169 hK169
                        refine HT_region ?_
                        refine HL_cons rfl ?_
                        refine o_assign ?_
                        try dsimp only [putL, setL, evL, getL]
                        refine HL_nil ?_
                        refine hK169 _ _ ?_
                        refine HT_seq_k ?_
                        intro K170 hK170
                        refine HT_region ?_
                        refine HL_cons rfl ?_
                        refine o_loads' [.int .i64 u27.1, .slice A28 u27.2.1.length c28, .slice A29 u27.2.2.1.length c29, .int .i64 u27.2.2.2.1] rfl Try.underlying31 rfl tI31 rfl (hH.partv 3 rfl (0) [.int .i64 u27.1, .slice A28 u27.2.1.length c28, .slice A29 u27.2.2.1.length c29, .int .i64 u27.2.2.2.1] rfl) ?_
                        try dsimp only [putL, setL, evL, getL]
                        refine HL_cons rfl ?_
                        refine o_move ?_
                        try dsimp only [putL, setL, evL, getL]
                        obtain ⟨u171, hu171, H⟩ := headE H
                        refine HL_cons rfl ?_
                        refine o_call (args := #[.agg #[.int .i64 u27.1, .slice A28 u108.2.1.length c28, .slice A29 u108.2.2.length c29, .int .i64 u27.2.2.2.1], .int .i64 1]) Try.func27 rfl rfl (by show ([.agg #[.int .i64 u27.1, .slice A28 u27.2.1.length c28, .slice A29 u27.2.2.1.length c29, .int .i64 u27.2.2.2.1], .int .i64 1] : List Value) = [.agg #[.int .i64 u27.1, .slice A28 u108.2.1.length c28, .slice A29 u108.2.2.length c29, .int .i64 u27.2.2.2.1], .int .i64 1]; rw [hl109, hl110]; first | done | rfl) (laws_heldBuf.ok s166 s166 no u27.1 A28 c28 u108.2.1 A29 c29 u108.2.2 u27.2.2.2.1 1 (hH.rd 1 rfl) (hH.rd 2 rfl) (Hp.own (Bs.refl s166)) _ hu171) ?_
                        rintro _ s171 ⟨rfl, hD⟩
                        replace hH := hH.back0T hD
                        clear hD
                        dsimp only [addC, setC, rmC, selC, getC] at hH
                        try dsimp only [putL, setL, evL, getL]
                        refine HL_cons rfl ?_
                        refine o_assign ?_
                        try dsimp only [putL, setL, evL, getL]
                        refine HL_nil ?_
                        refine hK170 _ _ ?_
                        refine HT_seq_k ?_
                        intro K172 hK172
                        refine HT_seq_k ?_
                        intro K173 hK173
                        refine HT_region ?_
                        refine HL_cons rfl ?_
                        refine o_move ?_
                        try dsimp only [putL, setL, evL, getL]
                        refine HL_cons rfl ?_
                        refine o_bin rfl rfl rfl ?_
                        try dsimp only [putL, setL, evL, getL]
                        refine HL_nil ?_
                        refine hK173 _ _ ?_
                        rcases Bool.eq_false_or_eq_true (decide (u171 < 0)) with hb174 | hb174
                        · replace H := iteT hb174 H
                          refine HT_true (congrArg Value.bool hb174) ?_
                          refine HT_seq_k ?_
                          intro K175 hK175
                          refine HT_region ?_
                          refine HL_cons rfl ?_
                          refine o_assign ?_
                          try dsimp only [putL, setL, evL, getL]
                          refine HL_nil ?_
                          refine hK175 _ _ ?_
                          refine HT_ret ?_
                          obtain rfl := Option.some.inj (show some _ = some r from H)
                          exact hQr _ _ [.bool false] ⟨rfl, trivial⟩ ⟨rfl, hH.sel [] (by decide)⟩
                        · replace H := iteF hb174 H
                          refine HT_false (congrArg Value.bool hb174) ?_
                          refine HT_skip ?_
                          refine hK172 _ _ ?_
                          refine HT_seq_k ?_
                          intro K176 hK176
                          refine HT_region ?_
                          refine HL_cons rfl ?_
                          refine o_move ?_
                          try dsimp only [putL, setL, evL, getL]
                          refine HL_cons rfl ?_
                          refine o_move ?_
                          try dsimp only [putL, setL, evL, getL]
                          obtain ⟨u177, hu177, H⟩ := headE H
                          refine HL_cons rfl ?_
                          refine o_call (args := #[.slice A30 u112.2.length c30, .int .i64 u171]) Try.func20 rfl rfl (by show ([.slice A30 u27.2.2.2.2.1.length c30, .int .i64 u171] : List Value) = [.slice A30 u112.2.length c30, .int .i64 u171]; rw [hl113]; first | done | rfl) (laws_heldIntS.ok s171 s171 no A30 c30 u112.2 u171 (hH.rd 0 rfl) (Hp.own (Bs.refl s171)) _ hu177) ?_
                          rintro _ s177 ⟨rfl, hD⟩
                          replace hH := hH.back0T hD
                          clear hD
                          dsimp only [addC, setC, rmC, selC, getC] at hH
                          try dsimp only [putL, setL, evL, getL]
                          refine HL_cons rfl ?_
                          refine o_assign ?_
                          try dsimp only [putL, setL, evL, getL]
                          refine HL_nil ?_
                          refine hK176 _ _ ?_
                          refine HT_seq_k ?_
                          intro K178 hK178
                          refine HT_seq_k ?_
                          intro K179 hK179
                          refine HT_region ?_
                          refine HL_cons rfl ?_
                          refine o_move ?_
                          try dsimp only [putL, setL, evL, getL]
                          refine HL_cons rfl ?_
                          refine o_bin rfl rfl rfl ?_
                          try dsimp only [putL, setL, evL, getL]
                          refine HL_nil ?_
                          refine hK179 _ _ ?_
                          rcases Bool.eq_false_or_eq_true (decide (u177 < 0)) with hb180 | hb180
                          · replace H := iteT hb180 H
                            refine HT_true (congrArg Value.bool hb180) ?_
                            refine HT_seq_k ?_
                            intro K181 hK181
                            refine HT_region ?_
                            refine HL_cons rfl ?_
                            refine o_assign ?_
                            try dsimp only [putL, setL, evL, getL]
                            refine HL_nil ?_
                            refine hK181 _ _ ?_
                            refine HT_ret ?_
                            obtain rfl := Option.some.inj (show some _ = some r from H)
                            exact hQr _ _ [.bool false] ⟨rfl, trivial⟩ ⟨rfl, hH.sel [] (by decide)⟩
                          · replace H := iteF hb180 H
                            refine HT_false (congrArg Value.bool hb180) ?_
                            refine HT_skip ?_
                            refine hK178 _ _ ?_
                            refine HT_seq_k ?_
                            intro K182 hK182
                            refine HT_seq_k ?_
                            intro K183 hK183
                            refine HT_region ?_
                            refine HL_cons rfl ?_
                            refine o_move ?_
                            try dsimp only [putL, setL, evL, getL]
                            refine HL_cons rfl ?_
                            refine o_move ?_
                            try dsimp only [putL, setL, evL, getL]
                            refine HL_cons rfl ?_
                            refine o_bin rfl rfl rfl ?_
                            try dsimp only [putL, setL, evL, getL]
                            refine HL_nil ?_
                            refine hK183 _ _ ?_
                            rcases Bool.eq_false_or_eq_true (u177 != u112.1) with hb184 | hb184
                            · replace H := iteT hb184 H
                              refine HT_true (congrArg Value.bool hb184) ?_
                              refine HT_seq_k ?_
                              intro K185 hK185
                              refine HT_region ?_
                              refine HL_cons rfl ?_
                              refine o_assign ?_
                              try dsimp only [putL, setL, evL, getL]
                              refine HL_nil ?_
                              refine hK185 _ _ ?_
                              refine HT_ret ?_
                              obtain rfl := Option.some.inj (show some _ = some r from H)
                              exact hQr _ _ [.bool false] ⟨rfl, trivial⟩ ⟨rfl, hH.sel [] (by decide)⟩
                            · replace H := iteF hb184 H
                              refine HT_false (congrArg Value.bool hb184) ?_
                              refine HT_skip ?_
                              refine hK182 _ _ ?_
                              refine HT_seq_k ?_
                              intro K186 hK186
                              refine HT_region ?_
                              refine HL_cons rfl ?_
                              refine o_assign ?_
                              try dsimp only [putL, setL, evL, getL]
                              refine HL_nil ?_
                              refine hK186 _ _ ?_
                              refine HT_ret ?_
                              obtain rfl := Option.some.inj (show some _ = some r from H)
                              exact hQr _ _ [.bool true] ⟨rfl, trivial⟩ ⟨rfl, hH.sel [] (by decide)⟩
end Go.Proofs.Ytopecknfnhocpaa
