/- The functions that the law reaches, as plain functions, each with its contract: printed by a program of the prover's. No conditions: lemmas. -/
import Derived.Test.YtkieinlcpkpcjaaWLBuffer2
set_option linter.unusedVariables false
set_option linter.unusedSimpArgs false
namespace Go.Proofs.Ytkieinlcpkpcjaa
open Go Go.Proofs.GL
def laws_FnBuffer.f (p0 : List (Int)) (p1 : List (Int)) : Option Bool := (laws_big.f p0 p1).bind fun u4 => if u4 = true then (some true) else ((spec_DrawPutBuf.f p0).bind fun u8 => (impl_PutBuf.f u8.1 u8.2.1 u8.2.2.1 u8.2.2.2.1 u8.2.2.2.2.1 u8.2.2.2.2.2).bind fun u16 => (spec_PutBuf.f u8.1 u8.2.1 u8.2.2.1 u8.2.2.2.1 u8.2.2.2.2.1 u8.2.2.2.2.2).bind fun u23 => (if (u16.2.2.2.2.2 != u23.2.2.2.2.2) = true then (some true) else ((laws_sameBuf.f u16.1 u16.2.1 u16.2.2.1 u16.2.2.2.1 u23.1 u23.2.1 u23.2.2.1 u23.2.2.2.1).bind fun u60 => if (!u60) = true then (some true) else ((laws_sameInts.f u16.2.2.2.2.1 u23.2.2.2.2.1).bind fun u62 => if (!u62) = true then (some true) else ((impl_GoodBuf.f u8.1 u8.2.1 u8.2.2.1 u8.2.2.2.1).bind fun u64 => (spec_GoodBuf.f u8.1 u8.2.1 u8.2.2.1 u8.2.2.2.1).bind fun u65 => some (u64 != u65))))).bind fun (o : Bool) => match o with | x58 => (if x58 = true then (some false) else ((if u16.2.2.2.2.2 = true then ((laws_numberOf.f p1).bind fun u179 => (rem? u179 (IntKind.i64.wrap ((u8.2.2.2.2.1.length : Int) + 1))).bind fun u180 => ((cut? u8.2.2.2.2.1 0 u180).bind fun x203 => (cut? u8.2.2.2.2.2 0 u180).bind fun x204 => (impl_PutBuf.f u8.1 u8.2.1 u8.2.2.1 u8.2.2.2.1 x203 x204).bind fun u205 => some (u205.2.2.2.2.1, u205.2.2.2.2.2, u205.1, u205.2.1, u205.2.2.1, u205.2.2.2.1)).bind fun (o : (List (Int)) × Bool × Int × (List (Int)) × (List (Int)) × Int) => match o with | (x197, x198, x199, x200, x201, x202) => (((cut? u8.2.2.2.2.1 u180 (u8.2.2.2.2.1.length : Int)).bind fun x240 => (cut? u8.2.2.2.2.2 u180 (u8.2.2.2.2.2.length : Int)).bind fun x241 => (impl_PutBuf.f x199 x200 x201 x202 x240 x241).bind fun u242 => some (u242.2.2.2.2.1, u242.2.2.2.2.2, u242.1, u242.2.1, u242.2.2.1, u242.2.2.2.1)).bind fun (o : (List (Int)) × Bool × Int × (List (Int)) × (List (Int)) × Int) => match o with | (x234, x235, x236, x237, x238, x239) => ((if (!x198) = true then (some true) else (if (!x235) = true then (some true) else ((laws_sameBuf.f x236 x237 x238 x239 u16.1 u16.2.1 u16.2.2.1 u16.2.2.2.1).bind fun u270 => if (!u270) = true then (some true) else ((app? 17592186044416 x197 x234).bind fun x272 => (laws_sameInts.f x272 u16.2.2.2.2.1).bind fun u273 => if (!u273) = true then (some true) else ((laws_sum.f u16.2.2.1).bind fun u275 => (laws_sum.f u8.2.2.1).bind fun u276 => (laws_sum.f u8.2.2.2.2.2).bind fun u277 => if ((IntKind.i64.wrap (u16.2.2.2.1 + u275)) != (IntKind.i64.wrap ((IntKind.i64.wrap (u8.2.2.2.1 + u276)) + u277))) = true then (some true) else (some (decide ((u16.2.1.length : Int) > u16.1)))))))).bind fun (o : Bool) => match o with | x267 => (if x267 = true then ((some false).bind fun z => some (Lo.ret z)) else (some (Lo.go ())))))) else (some (Lo.go ()))).bind fun (o : Lo Unit Bool) => match o with | .go () => ((spec_DrawTakeBuf.f p1).bind fun u284 => (impl_TakeBuf.f u284.1 u284.2.1 u284.2.2.1 u284.2.2.2.1 u284.2.2.2.2).bind fun u290 => (spec_TakeBuf.f u284.1 u284.2.1 u284.2.2.1 u284.2.2.2.1 u284.2.2.2.2).bind fun u297 => (impl_ByteOf.f u284.1 u284.2.1 u284.2.2.1 u284.2.2.2.1 u284.2.2.2.2).bind fun u304 => (spec_ByteOf.f u284.1 u284.2.1 u284.2.2.1 u284.2.2.2.1 u284.2.2.2.2).bind fun u306 => (if (u290.2.2.2.2.2 != u297.2.2.2.2.2) = true then (some true) else ((laws_sameBuf.f u290.1 u290.2.1 u290.2.2.1 u290.2.2.2.1 u297.1 u297.2.1 u297.2.2.1 u297.2.2.2.1).bind fun u335 => if (!u335) = true then (some true) else ((laws_sameInts.f u290.2.2.2.2.1 u297.2.2.2.2.1).bind fun u337 => if (!u337) = true then (some true) else (if (u304.2 != u306.2) = true then (some true) else (some (u304.1 != u306.1)))))).bind fun (o : Bool) => match o with | x333 => (if x333 = true then (some false) else (if (!u290.2.2.2.2.2) = true then (some true) else (if u304.2 = true then (if (u290.2.2.2.1 == u304.1) = true then (some ((u290.2.2.2.2.1.length : Int) == u284.2.2.2.2)) else (some false)) else (some false))))) | .ret z => some z)))
def laws_FnBuffer.post (sb s : St) (F0 : Fp) (r : Bool) : Value → St → Prop := fun v s' => v = .bool r ∧ Hp sb s F0 s' []
set_option maxRecDepth 100000 in
set_option maxHeartbeats 4000000 in
theorem laws_FnBuffer.ok (sb s : St) (F0 : Fp) (A0p : Option Addr) (c0p : Nat) (p0 : List (Int)) (A1p : Option Addr) (c1p : Nat) (p1 : List (Int)) (HRp0 : Rd (Kd.int .u8) sb A0p c0p p0) (HRp1 : Rd (Kd.int .u8) sb A1p c1p p1) (hH : Hp sb s F0 s []) (r : Bool) (H : laws_FnBuffer.f p0 p1 = some r) : GCall Try.prog 4 #[.slice A0p p0.length c0p, .slice A1p p1.length c1p] s (laws_FnBuffer.post sb s F0 r) := by
  refine GCall_ofk [.tmp 4] [.slice A0p p0.length c0p, .slice A1p p1.length c1p, undef, undef, undef, undef, undef, undef, undef, undef, undef, undef, undef, undef, undef, undef, undef, undef, undef, undef, undef, undef, undef, undef, undef, undef, undef, undef, undef, undef, undef, undef, undef, undef, undef, undef, undef, undef, undef, undef, undef, undef, undef, undef, undef, undef, undef, undef, undef, undef, undef, undef, undef, undef, undef, undef, undef, undef, undef, undef, undef, undef, undef, undef, undef, undef, undef, undef, undef, undef, undef, undef, undef, undef, undef, undef, undef, undef, undef, undef, undef, undef, undef, undef, undef, undef, undef, undef, undef, undef, undef, undef, undef, undef, undef, undef, undef, undef, undef, undef, undef, undef, undef, undef, undef, undef, undef, undef, undef, undef, undef, undef, undef, undef, undef, undef, undef, undef, undef, undef, undef, undef, undef, undef, undef, undef, undef, undef, undef, undef, undef, undef, undef, undef, undef, undef, undef, undef, undef, undef, undef, undef, undef, undef, undef, undef, undef, undef, undef, undef, undef, undef, undef, undef, undef, undef, undef, undef, undef, undef, undef, undef, undef, undef, undef, undef, undef, undef, undef, undef, undef, undef, undef, undef, undef, undef, undef, undef, undef, undef, undef, undef, undef, undef, undef, undef, undef, undef, undef, undef, undef, undef, undef, undef, undef, undef, undef, undef, undef, undef, undef, undef, undef, undef, undef, undef, undef, undef, undef, undef, undef, undef, undef, undef, undef, undef, undef, undef, undef, undef, undef, undef, undef, undef, undef, undef, undef, undef, undef, undef] Try.func4 rfl rfl rfl ?_
  intro w Q hQr hQn hQp
  replace H := topE H
  unfold laws_FnBuffer.f at H
  refine HT_seq_k ?_
  intro K1 hK1
  refine HT_region ?_
  refine HL_cons rfl ?_
  refine o_assign ?_
  try dsimp only [putL, setL, evL, getL]
  refine HL_nil ?_
  refine hK1 _ _ ?_
  refine HT_seq_k ?_
  intro K2 hK2
  refine HT_seq_k ?_
  intro K3 hK3
  refine HT_region ?_
  refine HL_cons rfl ?_
  refine o_move ?_
  try dsimp only [putL, setL, evL, getL]
  refine HL_cons rfl ?_
  refine o_move ?_
  try dsimp only [putL, setL, evL, getL]
  replace H := headE H
  obtain ⟨u4, hu4, H⟩ := H
  refine HL_cons rfl ?_
  refine o_call (args := #[.slice A0p p0.length c0p, .slice A1p p1.length c1p]) Try.func14 rfl rfl rfl (laws_big.ok sb s no A0p c0p p0 A1p c1p p1 HRp0 HRp1 (Hp.own hH.bs) _ hu4) ?_
  rintro _ s4 ⟨rfl, hD⟩
  replace hH := hH.back0 hD (Up.refl _ _ _)
  clear hD
  dsimp only [addC, setC, rmC, selC, getC] at hH
  try dsimp only [putL, setL, evL, getL]
  refine HL_nil ?_
  refine hK3 _ _ ?_
  rcases Bool.eq_false_or_eq_true u4 with hb5 | hb5
  · replace H := iteT hb5 H
    refine HT_true (congrArg Value.bool hb5) ?_
    refine HT_seq_k ?_
    intro K6 hK6
    refine HT_region ?_
    refine HL_cons rfl ?_
    refine o_assign ?_
    try dsimp only [putL, setL, evL, getL]
    refine HL_nil ?_
    refine hK6 _ _ ?_
    refine HT_ret ?_
    exact hQr _ _ [.bool true] ⟨rfl, trivial⟩ (retH (fun r => laws_FnBuffer.post sb s F0 r _ _) (show some _ = some r from H) ⟨rfl, hH⟩)
  · replace H := iteF hb5 H
    refine HT_false (congrArg Value.bool hb5) ?_
    refine HT_skip ?_
    refine hK2 _ _ ?_
    refine HT_seq_k ?_
    intro K7 hK7
    refine HT_region ?_
    refine HL_cons rfl ?_
    refine o_move ?_
    try dsimp only [putL, setL, evL, getL]
    replace H := headE H
    obtain ⟨u8, hu8, H⟩ := H
    refine HL_cons rfl ?_
    refine o_call (args := #[.slice A0p p0.length c0p]) Try.func24 rfl rfl rfl (spec_DrawPutBuf.ok sb s4 no A0p c0p p0 HRp0 (Hp.own hH.bs) _ hu8) ?_
    rintro _ s8 ⟨A9, c9, A10, c10, A11, c11, A12, c12, rfl, hD⟩
    replace hH := hH.back0 hD (Up.refl _ _ _)
    clear hD
    dsimp only [addC, setC, rmC, selC, getC] at hH
    try dsimp only [putL, setL, evL, getL]
    refine HL_cons rfl ?_
    refine o_move ?_
    try dsimp only [putL, setL, evL, getL]
    refine HL_cons rfl ?_
    refine o_extract rfl rfl ?_
    try dsimp only [putL, setL, evL, getL]
    refine HL_cons rfl ?_
    refine o_extract rfl rfl ?_
    try dsimp only [putL, setL, evL, getL]
    refine HL_cons rfl ?_
    refine o_extract rfl rfl ?_
    try dsimp only [putL, setL, evL, getL]
    refine HL_cons rfl ?_
    refine o_allocH hH tI37 ?_
    intro b13 s13 hH' hG
    replace hH : Hp sb s F0 s13 [Ck.ol OI 3 A9 c9 u8.2.1, Ck.ol OI 3 A10 c10 u8.2.2.1, Ck.ol OI 3 A11 c11 u8.2.2.2.2.1, Ck.ol OI 3 A12 c12 u8.2.2.2.2.2, Ck.ov b13 [.int .i64 0, .slice none 0 0, .slice none 0 0, .int .i64 0] 37] := hH'
    clear hH' hG
    try dsimp only [putL, setL, evL, getL]
    refine HL_cons rfl ?_
    refine o_stvH (vs := [.int .i64 u8.1, .slice A9 u8.2.1.length c9, .slice A10 u8.2.2.1.length c10, .int .i64 u8.2.2.2.1]) (us' := [.int .i64 u8.1, .slice A9 u8.2.1.length c9, .slice A10 u8.2.2.1.length c10, .int .i64 u8.2.2.2.1]) hH 4 rfl rfl rfl rfl rfl tI37 rfl (List.cons_ne_nil _ _) rfl rfl rfl ?_
    intro s14 hH'
    replace hH : Hp sb s F0 s14 [Ck.ol OI 3 A9 c9 u8.2.1, Ck.ol OI 3 A10 c10 u8.2.2.1, Ck.ol OI 3 A11 c11 u8.2.2.2.2.1, Ck.ol OI 3 A12 c12 u8.2.2.2.2.2, Ck.ov b13 [.int .i64 u8.1, .slice A9 u8.2.1.length c9, .slice A10 u8.2.2.1.length c10, .int .i64 u8.2.2.2.1] 37] := hH'
    clear hH'
    try dsimp only [putL, setL, evL, getL]
    refine HL_cons rfl ?_
    refine o_assign ?_
    try dsimp only [putL, setL, evL, getL]
    refine HL_cons rfl ?_
    refine o_assign ?_
    try dsimp only [putL, setL, evL, getL]
    refine HL_nil ?_
    refine hK7 _ _ ?_
    refine HT_seq_k ?_
    intro K15 hK15
    refine HT_region ?_
    refine HL_cons rfl ?_
    refine o_loads' [.int .i64 u8.1, .slice A9 u8.2.1.length c9, .slice A10 u8.2.2.1.length c10, .int .i64 u8.2.2.2.1] rfl Try.underlying37 rfl tI37 rfl (hH.partv 4 rfl (0) [.int .i64 u8.1, .slice A9 u8.2.1.length c9, .slice A10 u8.2.2.1.length c10, .int .i64 u8.2.2.2.1] rfl) ?_
    try dsimp only [putL, setL, evL, getL]
    refine HL_cons rfl ?_
    refine o_move ?_
    try dsimp only [putL, setL, evL, getL]
    refine HL_cons rfl ?_
    refine o_move ?_
    try dsimp only [putL, setL, evL, getL]
    replace H := headE H
    obtain ⟨u16, hu16, H⟩ := H
    refine HL_cons rfl ?_
    refine o_call (args := #[.agg #[.int .i64 u8.1, .slice A9 u8.2.1.length c9, .slice A10 u8.2.2.1.length c10, .int .i64 u8.2.2.2.1], .slice A11 u8.2.2.2.2.1.length c11, .slice A12 u8.2.2.2.2.2.length c12]) Try.func25 rfl rfl rfl (impl_PutBuf.ok s14 s14 no u8.1 A9 c9 u8.2.1 A10 c10 u8.2.2.1 u8.2.2.2.1 A11 c11 u8.2.2.2.2.1 A12 c12 u8.2.2.2.2.2 (hH.rd 0 rfl) (hH.rd 1 rfl) (hH.rd 2 rfl) (hH.rd 3 rfl) (Hp.own (Bs.refl s14)) _ hu16) ?_
    rintro _ s16 ⟨A17, c17, A18, c18, A19, c19, rfl, hD⟩
    replace hH := hH.back0T hD
    clear hD
    dsimp only [addC, setC, rmC, selC, getC] at hH
    try dsimp only [putL, setL, evL, getL]
    refine HL_cons rfl ?_
    refine o_move ?_
    try dsimp only [putL, setL, evL, getL]
    refine HL_cons rfl ?_
    refine o_extract rfl rfl ?_
    try dsimp only [putL, setL, evL, getL]
    refine HL_cons rfl ?_
    refine o_extract rfl rfl ?_
    try dsimp only [putL, setL, evL, getL]
    refine HL_cons rfl ?_
    refine o_extract rfl rfl ?_
    try dsimp only [putL, setL, evL, getL]
    refine HL_cons rfl ?_
    refine o_allocH hH tI37 ?_
    intro b20 s20 hH' hG
    replace hH : Hp sb s F0 s20 [Ck.ol OI 3 A9 c9 u8.2.1, Ck.ol OI 3 A10 c10 u8.2.2.1, Ck.ol OI 3 A11 c11 u8.2.2.2.2.1, Ck.ol OI 3 A12 c12 u8.2.2.2.2.2, Ck.ov b13 [.int .i64 u8.1, .slice A9 u8.2.1.length c9, .slice A10 u8.2.2.1.length c10, .int .i64 u8.2.2.2.1] 37, Ck.ol OI 3 A17 c17 u16.2.1, Ck.ol OI 3 A18 c18 u16.2.2.1, Ck.ol OI 3 A19 c19 u16.2.2.2.2.1, Ck.ov b20 [.int .i64 0, .slice none 0 0, .slice none 0 0, .int .i64 0] 37] := hH'
    clear hH' hG
    try dsimp only [putL, setL, evL, getL]
    refine HL_cons rfl ?_
    refine o_stvH (vs := [.int .i64 u16.1, .slice A17 u16.2.1.length c17, .slice A18 u16.2.2.1.length c18, .int .i64 u16.2.2.2.1]) (us' := [.int .i64 u16.1, .slice A17 u16.2.1.length c17, .slice A18 u16.2.2.1.length c18, .int .i64 u16.2.2.2.1]) hH 8 rfl rfl rfl rfl rfl tI37 rfl (List.cons_ne_nil _ _) rfl rfl rfl ?_
    intro s21 hH'
    replace hH : Hp sb s F0 s21 [Ck.ol OI 3 A9 c9 u8.2.1, Ck.ol OI 3 A10 c10 u8.2.2.1, Ck.ol OI 3 A11 c11 u8.2.2.2.2.1, Ck.ol OI 3 A12 c12 u8.2.2.2.2.2, Ck.ov b13 [.int .i64 u8.1, .slice A9 u8.2.1.length c9, .slice A10 u8.2.2.1.length c10, .int .i64 u8.2.2.2.1] 37, Ck.ol OI 3 A17 c17 u16.2.1, Ck.ol OI 3 A18 c18 u16.2.2.1, Ck.ol OI 3 A19 c19 u16.2.2.2.2.1, Ck.ov b20 [.int .i64 u16.1, .slice A17 u16.2.1.length c17, .slice A18 u16.2.2.1.length c18, .int .i64 u16.2.2.2.1] 37] := hH'
    clear hH'
    try dsimp only [putL, setL, evL, getL]
    refine HL_cons rfl ?_
    refine o_assign ?_
    try dsimp only [putL, setL, evL, getL]
    refine HL_cons rfl ?_
    refine o_assign ?_
    try dsimp only [putL, setL, evL, getL]
    refine HL_nil ?_
    refine hK15 _ _ ?_
    refine HT_seq_k ?_
    intro K22 hK22
    refine HT_region ?_
    refine HL_cons rfl ?_
    refine o_loads' [.int .i64 u8.1, .slice A9 u8.2.1.length c9, .slice A10 u8.2.2.1.length c10, .int .i64 u8.2.2.2.1] rfl Try.underlying37 rfl tI37 rfl (hH.partv 4 rfl (0) [.int .i64 u8.1, .slice A9 u8.2.1.length c9, .slice A10 u8.2.2.1.length c10, .int .i64 u8.2.2.2.1] rfl) ?_
    try dsimp only [putL, setL, evL, getL]
    refine HL_cons rfl ?_
    refine o_move ?_
    try dsimp only [putL, setL, evL, getL]
    refine HL_cons rfl ?_
    refine o_move ?_
    try dsimp only [putL, setL, evL, getL]
    replace H := headE H
    obtain ⟨u23, hu23, H⟩ := H
    refine HL_cons rfl ?_
    refine o_call (args := #[.agg #[.int .i64 u8.1, .slice A9 u8.2.1.length c9, .slice A10 u8.2.2.1.length c10, .int .i64 u8.2.2.2.1], .slice A11 u8.2.2.2.2.1.length c11, .slice A12 u8.2.2.2.2.2.length c12]) Try.func26 rfl rfl rfl (spec_PutBuf.ok s21 s21 no u8.1 A9 c9 u8.2.1 A10 c10 u8.2.2.1 u8.2.2.2.1 A11 c11 u8.2.2.2.2.1 A12 c12 u8.2.2.2.2.2 (hH.rd 0 rfl) (hH.rd 1 rfl) (hH.rd 2 rfl) (hH.rd 3 rfl) (Hp.own (Bs.refl s21)) _ hu23) ?_
    rintro _ s23 ⟨A24, c24, A25, c25, A26, c26, rfl, hD⟩
    replace hH := hH.back0T hD
    clear hD
    dsimp only [addC, setC, rmC, selC, getC] at hH
    try dsimp only [putL, setL, evL, getL]
    refine HL_cons rfl ?_
    refine o_move ?_
    try dsimp only [putL, setL, evL, getL]
    refine HL_cons rfl ?_
    refine o_extract rfl rfl ?_
    try dsimp only [putL, setL, evL, getL]
    refine HL_cons rfl ?_
    refine o_extract rfl rfl ?_
    try dsimp only [putL, setL, evL, getL]
    refine HL_cons rfl ?_
    refine o_extract rfl rfl ?_
    try dsimp only [putL, setL, evL, getL]
    refine HL_cons rfl ?_
    refine o_allocH hH tI37 ?_
    intro b27 s27 hH' hG
    replace hH : Hp sb s F0 s27 [Ck.ol OI 3 A9 c9 u8.2.1, Ck.ol OI 3 A10 c10 u8.2.2.1, Ck.ol OI 3 A11 c11 u8.2.2.2.2.1, Ck.ol OI 3 A12 c12 u8.2.2.2.2.2, Ck.ov b13 [.int .i64 u8.1, .slice A9 u8.2.1.length c9, .slice A10 u8.2.2.1.length c10, .int .i64 u8.2.2.2.1] 37, Ck.ol OI 3 A17 c17 u16.2.1, Ck.ol OI 3 A18 c18 u16.2.2.1, Ck.ol OI 3 A19 c19 u16.2.2.2.2.1, Ck.ov b20 [.int .i64 u16.1, .slice A17 u16.2.1.length c17, .slice A18 u16.2.2.1.length c18, .int .i64 u16.2.2.2.1] 37, Ck.ol OI 3 A24 c24 u23.2.1, Ck.ol OI 3 A25 c25 u23.2.2.1, Ck.ol OI 3 A26 c26 u23.2.2.2.2.1, Ck.ov b27 [.int .i64 0, .slice none 0 0, .slice none 0 0, .int .i64 0] 37] := hH'
    clear hH' hG
    try dsimp only [putL, setL, evL, getL]
    refine HL_cons rfl ?_
    refine o_stvH (vs := [.int .i64 u23.1, .slice A24 u23.2.1.length c24, .slice A25 u23.2.2.1.length c25, .int .i64 u23.2.2.2.1]) (us' := [.int .i64 u23.1, .slice A24 u23.2.1.length c24, .slice A25 u23.2.2.1.length c25, .int .i64 u23.2.2.2.1]) hH 12 rfl rfl rfl rfl rfl tI37 rfl (List.cons_ne_nil _ _) rfl rfl rfl ?_
    intro s28 hH'
    replace hH : Hp sb s F0 s28 [Ck.ol OI 3 A9 c9 u8.2.1, Ck.ol OI 3 A10 c10 u8.2.2.1, Ck.ol OI 3 A11 c11 u8.2.2.2.2.1, Ck.ol OI 3 A12 c12 u8.2.2.2.2.2, Ck.ov b13 [.int .i64 u8.1, .slice A9 u8.2.1.length c9, .slice A10 u8.2.2.1.length c10, .int .i64 u8.2.2.2.1] 37, Ck.ol OI 3 A17 c17 u16.2.1, Ck.ol OI 3 A18 c18 u16.2.2.1, Ck.ol OI 3 A19 c19 u16.2.2.2.2.1, Ck.ov b20 [.int .i64 u16.1, .slice A17 u16.2.1.length c17, .slice A18 u16.2.2.1.length c18, .int .i64 u16.2.2.2.1] 37, Ck.ol OI 3 A24 c24 u23.2.1, Ck.ol OI 3 A25 c25 u23.2.2.1, Ck.ol OI 3 A26 c26 u23.2.2.2.2.1, Ck.ov b27 [.int .i64 u23.1, .slice A24 u23.2.1.length c24, .slice A25 u23.2.2.1.length c25, .int .i64 u23.2.2.2.1] 37] := hH'
    clear hH'
    try dsimp only [putL, setL, evL, getL]
    refine HL_cons rfl ?_
    refine o_assign ?_
    try dsimp only [putL, setL, evL, getL]
    refine HL_cons rfl ?_
    refine o_assign ?_
    try dsimp only [putL, setL, evL, getL]
    refine HL_nil ?_
    refine hK22 _ _ ?_
    refine HT_seq_k ?_
    intro K49 hK49
    refine joinH H fun G50 hG50 H => ?_
    refine HT_joinK (fun l' s' => ∃ (x58 : Bool), G50 x58 = some r ∧ l' = [.slice A0p p0.length c0p, .slice A1p p1.length c1p, undef, undef, .bool false, .pointer (some ⟨b13, 0, none⟩), .slice A11 u8.2.2.2.2.1.length c11, .slice A12 u8.2.2.2.2.2.length c12, .pointer (some ⟨b20, 0, none⟩), .slice A19 u16.2.2.2.2.1.length c19, .bool u16.2.2.2.2.2, .pointer (some ⟨b27, 0, none⟩), .slice A26 u23.2.2.2.2.1.length c26, .bool u23.2.2.2.2.2, undef, undef, undef, undef, undef, undef, undef, undef, undef, undef, undef, undef, undef, undef, undef, undef, undef, undef, undef, .slice A0p p0.length c0p, .slice A1p p1.length c1p, .bool u4, .tuple #[.agg #[.int .i64 u8.1, .slice A9 u8.2.1.length c9, .slice A10 u8.2.2.1.length c10, .int .i64 u8.2.2.2.1], .slice A11 u8.2.2.2.2.1.length c11, .slice A12 u8.2.2.2.2.2.length c12], .slice A0p p0.length c0p, .tuple #[.agg #[.int .i64 u8.1, .slice A9 u8.2.1.length c9, .slice A10 u8.2.2.1.length c10, .int .i64 u8.2.2.2.1], .slice A11 u8.2.2.2.2.1.length c11, .slice A12 u8.2.2.2.2.2.length c12], .agg #[.int .i64 u8.1, .slice A9 u8.2.1.length c9, .slice A10 u8.2.2.1.length c10, .int .i64 u8.2.2.2.1], .slice A11 u8.2.2.2.2.1.length c11, .slice A12 u8.2.2.2.2.2.length c12, .tuple #[.agg #[.int .i64 u16.1, .slice A17 u16.2.1.length c17, .slice A18 u16.2.2.1.length c18, .int .i64 u16.2.2.2.1], .slice A19 u16.2.2.2.2.1.length c19, .bool u16.2.2.2.2.2], .agg #[.int .i64 u8.1, .slice A9 u8.2.1.length c9, .slice A10 u8.2.2.1.length c10, .int .i64 u8.2.2.2.1], .slice A11 u8.2.2.2.2.1.length c11, .slice A12 u8.2.2.2.2.2.length c12, .tuple #[.agg #[.int .i64 u16.1, .slice A17 u16.2.1.length c17, .slice A18 u16.2.2.1.length c18, .int .i64 u16.2.2.2.1], .slice A19 u16.2.2.2.2.1.length c19, .bool u16.2.2.2.2.2], .agg #[.int .i64 u16.1, .slice A17 u16.2.1.length c17, .slice A18 u16.2.2.1.length c18, .int .i64 u16.2.2.2.1], .slice A19 u16.2.2.2.2.1.length c19, .bool u16.2.2.2.2.2, .tuple #[.agg #[.int .i64 u23.1, .slice A24 u23.2.1.length c24, .slice A25 u23.2.2.1.length c25, .int .i64 u23.2.2.2.1], .slice A26 u23.2.2.2.2.1.length c26, .bool u23.2.2.2.2.2], .agg #[.int .i64 u8.1, .slice A9 u8.2.1.length c9, .slice A10 u8.2.2.1.length c10, .int .i64 u8.2.2.2.1], .slice A11 u8.2.2.2.2.1.length c11, .slice A12 u8.2.2.2.2.2.length c12, .tuple #[.agg #[.int .i64 u23.1, .slice A24 u23.2.1.length c24, .slice A25 u23.2.2.1.length c25, .int .i64 u23.2.2.2.1], .slice A26 u23.2.2.2.2.1.length c26, .bool u23.2.2.2.2.2], .agg #[.int .i64 u23.1, .slice A24 u23.2.1.length c24, .slice A25 u23.2.2.1.length c25, .int .i64 u23.2.2.2.1], .slice A26 u23.2.2.2.2.1.length c26, .bool u23.2.2.2.2.2, getL l' 58, getL l' 59, getL l' 60, getL l' 61, getL l' 62, getL l' 63, getL l' 64, getL l' 65, getL l' 66, getL l' 67, getL l' 68, getL l' 69, getL l' 70, getL l' 71, getL l' 72, getL l' 73, getL l' 74, getL l' 75, getL l' 76, getL l' 77, getL l' 78, .bool x58, undef, undef, undef, undef, undef, undef, undef, undef, undef, undef, undef, undef, undef, undef, undef, undef, undef, undef, undef, undef, undef, undef, undef, undef, undef, undef, undef, undef, undef, undef, undef, undef, undef, undef, undef, undef, undef, undef, undef, undef, undef, undef, undef, undef, undef, undef, undef, undef, undef, undef, undef, undef, undef, undef, undef, undef, undef, undef, undef, undef, undef, undef, undef, undef, undef, undef, undef, undef, undef, undef, undef, undef, undef, undef, undef, undef, undef, undef, undef, undef, undef, undef, undef, undef, undef, undef, undef, undef, undef, undef, undef, undef, undef, undef, undef, undef, undef, undef, undef, undef, undef, undef, undef, undef, undef, undef, undef, undef, undef, undef, undef, undef, undef, undef, undef, undef, undef, undef, undef, undef, undef, undef, undef, undef, undef, undef, undef, undef, undef, undef, undef, undef, undef, undef, undef, undef, undef, undef, undef, undef, undef, undef, undef, undef, undef, undef, undef, undef, undef, undef] ∧ Hp sb s F0 s' [Ck.ol OI 3 A11 c11 u8.2.2.2.2.1, Ck.ol OI 3 A12 c12 u8.2.2.2.2.2, Ck.ol OI 3 A19 c19 u16.2.2.2.2.1, Ck.ol OI 3 A9 c9 u8.2.1, Ck.ol OI 3 A10 c10 u8.2.2.1, Ck.ol OI 3 A17 c17 u16.2.1, Ck.ol OI 3 A18 c18 u16.2.2.1, Ck.ov b13 [.int .i64 u8.1, .slice A9 u8.2.1.length c9, .slice A10 u8.2.2.1.length c10, .int .i64 u8.2.2.2.1] 37, Ck.ov b20 [.int .i64 u16.1, .slice A17 u16.2.1.length c17, .slice A18 u16.2.2.1.length c18, .int .i64 u16.2.2.2.1] 37]) ?_ ?_
    · intro K50 hK50
      refine HX_draw hMix ?_
      refine HX_lim (R := fun _ => True) (k := 0) (fun s' => Gro s28 s') 23 ?_
      have hR := Gro.refl s28
      have hH0 := hH
      refine HK_readP 0 (v := .bool u16.2.2.2.2.2) rfl (by kernel_rfl) (fun c l s h => hQp c l s h) rfl (fun s' K hK => ?_) rfl rfl (fun _ => hR) ?_
      · refine o_move ?_
        exact hK
      try dsimp only [putL, setL, evL, getL]
      refine HK_readP 1 (v := .bool u23.2.2.2.2.2) rfl (by kernel_rfl) (fun c l s h => hQp c l s h) rfl (fun s' K hK => ?_) rfl rfl (fun _ => hR) ?_
      · refine o_move ?_
        exact hK
      try dsimp only [putL, setL, evL, getL]
      refine HK_readP 2 (v := .bool (u16.2.2.2.2.2 != u23.2.2.2.2.2)) rfl (by kernel_rfl) (fun c l s h => hQp c l s h) rfl (fun s' K hK => ?_) rfl rfl (fun _ => hR) ?_
      · refine o_neb rfl rfl Try.underlying4 ?_
        exact hK
      try dsimp only [putL, setL, evL, getL]
      refine HK_readP 3 (v := .bool (u16.2.2.2.2.2 != u23.2.2.2.2.2)) rfl (by kernel_rfl) (fun c l s h => hQp c l s h) rfl (fun s' K hK => ?_) rfl rfl (fun _ => hR) ?_
      · refine o_move ?_
        exact hK
      try dsimp only [putL, setL, evL, getL]
      rcases Bool.eq_false_or_eq_true (u16.2.2.2.2.2 != u23.2.2.2.2.2) with hb59 | hb59
      · replace H := iteT hb59 H
        refine HK_passP 4 rfl (by kernel_rfl) (fun c l s h => hQp c l s h) ?_ (fun _ => hR) ?_
        · exact wantF (j := 3) (b := false) (t := 61) (c := u16.2.2.2.2.2 != u23.2.2.2.2.2) rfl rfl rfl rfl hb59
        try dsimp only [putL, setL, evL, getL]
        refine HK_passP 5 rfl (by kernel_rfl) (fun c l s h => hQp c l s h) ?_ (fun _ => hR) ?_
        · exact wantF (j := 3) (b := false) (t := 61) (c := u16.2.2.2.2.2 != u23.2.2.2.2.2) rfl rfl rfl rfl hb59
        try dsimp only [putL, setL, evL, getL]
        refine HK_passP 6 rfl (by kernel_rfl) (fun c l s h => hQp c l s h) ?_ (fun _ => hR) ?_
        · exact wantF (j := 3) (b := false) (t := 61) (c := u16.2.2.2.2.2 != u23.2.2.2.2.2) rfl rfl rfl rfl hb59
        try dsimp only [putL, setL, evL, getL]
        refine HK_passP 7 rfl (by kernel_rfl) (fun c l s h => hQp c l s h) ?_ (fun _ => hR) ?_
        · exact wantF (j := 3) (b := false) (t := 61) (c := u16.2.2.2.2.2 != u23.2.2.2.2.2) rfl rfl rfl rfl hb59
        try dsimp only [putL, setL, evL, getL]
        refine HK_readP 8 (v := .bool true) rfl (by kernel_rfl) (fun c l s h => hQp c l s h) rfl (fun s' K hK => ?_) rfl rfl (fun _ => hR) ?_
        · refine o_pickT rfl hb59 ?_
          exact hK
        try dsimp only [putL, setL, evL, getL]
        refine HK_readP 9 (v := .bool true) rfl (by kernel_rfl) (fun c l s h => hQp c l s h) rfl (fun s' K hK => ?_) rfl rfl (fun _ => hR) ?_
        · refine o_move ?_
          exact hK
        try dsimp only [putL, setL, evL, getL]
        refine HK_passP 10 rfl (by kernel_rfl) (fun c l s h => hQp c l s h) ?_ (fun _ => hR) ?_
        · exact wantF (j := 9) (b := false) (t := 67) (c := true) rfl rfl rfl rfl rfl
        try dsimp only [putL, setL, evL, getL]
        refine HK_passP 11 rfl (by kernel_rfl) (fun c l s h => hQp c l s h) ?_ (fun _ => hR) ?_
        · exact wantF (j := 9) (b := false) (t := 67) (c := true) rfl rfl rfl rfl rfl
        try dsimp only [putL, setL, evL, getL]
        refine HK_passP 12 rfl (by kernel_rfl) (fun c l s h => hQp c l s h) ?_ (fun _ => hR) ?_
        · exact wantF (j := 9) (b := false) (t := 67) (c := true) rfl rfl rfl rfl rfl
        try dsimp only [putL, setL, evL, getL]
        refine HK_passP 13 rfl (by kernel_rfl) (fun c l s h => hQp c l s h) ?_ (fun _ => hR) ?_
        · exact wantF (j := 9) (b := false) (t := 67) (c := true) rfl rfl rfl rfl rfl
        try dsimp only [putL, setL, evL, getL]
        refine HK_readP 14 (v := .bool true) rfl (by kernel_rfl) (fun c l s h => hQp c l s h) rfl (fun s' K hK => ?_) rfl rfl (fun _ => hR) ?_
        · refine o_pickT rfl rfl ?_
          exact hK
        try dsimp only [putL, setL, evL, getL]
        refine HK_readP 15 (v := .bool true) rfl (by kernel_rfl) (fun c l s h => hQp c l s h) rfl (fun s' K hK => ?_) rfl rfl (fun _ => hR) ?_
        · refine o_move ?_
          exact hK
        try dsimp only [putL, setL, evL, getL]
        refine HK_passP 16 rfl (by kernel_rfl) (fun c l s h => hQp c l s h) ?_ (fun _ => hR) ?_
        · exact wantF (j := 15) (b := false) (t := 73) (c := true) rfl rfl rfl rfl rfl
        try dsimp only [putL, setL, evL, getL]
        refine HK_passP 17 rfl (by kernel_rfl) (fun c l s h => hQp c l s h) ?_ (fun _ => hR) ?_
        · exact wantF (j := 15) (b := false) (t := 73) (c := true) rfl rfl rfl rfl rfl
        try dsimp only [putL, setL, evL, getL]
        refine HK_passP 18 rfl (by kernel_rfl) (fun c l s h => hQp c l s h) ?_ (fun _ => hR) ?_
        · exact wantF (j := 15) (b := false) (t := 73) (c := true) rfl rfl rfl rfl rfl
        try dsimp only [putL, setL, evL, getL]
        refine HK_passP 19 rfl (by kernel_rfl) (fun c l s h => hQp c l s h) ?_ (fun _ => hR) ?_
        · exact wantF (j := 15) (b := false) (t := 73) (c := true) rfl rfl rfl rfl rfl
        try dsimp only [putL, setL, evL, getL]
        refine HK_passP 20 rfl (by kernel_rfl) (fun c l s h => hQp c l s h) ?_ (fun _ => hR) ?_
        · exact wantF (j := 15) (b := false) (t := 73) (c := true) rfl rfl rfl rfl rfl
        try dsimp only [putL, setL, evL, getL]
        refine HK_readP 21 (v := .bool true) rfl (by kernel_rfl) (fun c l s h => hQp c l s h) rfl (fun s' K hK => ?_) rfl rfl (fun _ => hR) ?_
        · refine o_pickT rfl rfl ?_
          exact hK
        try dsimp only [putL, setL, evL, getL]
        refine HK_done (fun _ => hR) (by kernel_rfl) ?_
        exact hK50 _ _ ⟨true, H, rfl, hH.sel [2, 3, 7, 0, 1, 5, 6, 4, 8] (by decide)⟩
      · replace H := iteF hb59 H
        refine HK_read 4 (v := .agg #[.int .i64 u16.1, .slice A17 u16.2.1.length c17, .slice A18 u16.2.2.1.length c18, .int .i64 u16.2.2.2.1]) rfl (by kernel_rfl) (fun c l s h => hQp c l s h) (wantT (j := 3) (b := false) (t := 61) (c := u16.2.2.2.2.2 != u23.2.2.2.2.2) rfl rfl rfl rfl hb59) (fun s' hR' K hK => ?_) rfl rfl hR ?_
        · refine o_loads' [.int .i64 u16.1, .slice A17 u16.2.1.length c17, .slice A18 u16.2.2.1.length c18, .int .i64 u16.2.2.2.1] rfl Try.underlying37 rfl tI37 rfl (fun j v hj => has_gro hR' ((hH0.partv 8 rfl (0) [.int .i64 u16.1, .slice A17 u16.2.1.length c17, .slice A18 u16.2.2.1.length c18, .int .i64 u16.2.2.2.1] rfl) j v hj)) ?_
          exact hK
        try dsimp only [putL, setL, evL, getL]
        refine HK_read 5 (v := .agg #[.int .i64 u23.1, .slice A24 u23.2.1.length c24, .slice A25 u23.2.2.1.length c25, .int .i64 u23.2.2.2.1]) rfl (by kernel_rfl) (fun c l s h => hQp c l s h) (wantT (j := 3) (b := false) (t := 61) (c := u16.2.2.2.2.2 != u23.2.2.2.2.2) rfl rfl rfl rfl hb59) (fun s' hR' K hK => ?_) rfl rfl hR ?_
        · refine o_loads' [.int .i64 u23.1, .slice A24 u23.2.1.length c24, .slice A25 u23.2.2.1.length c25, .int .i64 u23.2.2.2.1] rfl Try.underlying37 rfl tI37 rfl (fun j v hj => has_gro hR' ((hH0.partv 12 rfl (0) [.int .i64 u23.1, .slice A24 u23.2.1.length c24, .slice A25 u23.2.2.1.length c25, .int .i64 u23.2.2.2.1] rfl) j v hj)) ?_
          exact hK
        try dsimp only [putL, setL, evL, getL]
        refine HK_more [6] (by kernel_rfl) rfl (fun _ => hR) ⟨⟨_, rfl, Or.inl ⟨(wantT (j := 3) (b := false) (t := 61) (c := u16.2.2.2.2.2 != u23.2.2.2.2.2) rfl rfl rfl rfl hb59), ?_⟩⟩, trivial⟩
        replace H := headE H
        obtain ⟨u60, hu60, H⟩ := H
        skip
        refine o_call (args := #[.agg #[.int .i64 u16.1, .slice A17 u16.2.1.length c17, .slice A18 u16.2.2.1.length c18, .int .i64 u16.2.2.2.1], .agg #[.int .i64 u23.1, .slice A24 u23.2.1.length c24, .slice A25 u23.2.2.1.length c25, .int .i64 u23.2.2.2.1]]) Try.func27 rfl rfl rfl (laws_sameBuf.ok s28 s28 no u16.1 A17 c17 u16.2.1 A18 c18 u16.2.2.1 u16.2.2.2.1 u23.1 A24 c24 u23.2.1 A25 c25 u23.2.2.1 u23.2.2.2.1 (hH.rd 5 rfl) (hH.rd 6 rfl) (hH.rd 9 rfl) (hH.rd 10 rfl) (Hp.own (Bs.refl s28)) _ hu60) ?_
        rintro _ s60 ⟨rfl, hD⟩
        replace hR := hR.trans hD.gro
        replace hH := hH.back0T hD
        clear hD
        dsimp only [addC, setC, rmC, selC, getC] at hH
        try dsimp only [putL, setL, evL, getL]
        refine HK_readP 7 (v := .bool (!u60)) rfl (by kernel_rfl) (fun c l s h => hQp c l s h) (wantT (j := 3) (b := false) (t := 61) (c := u16.2.2.2.2.2 != u23.2.2.2.2.2) rfl rfl rfl rfl hb59) (fun s' K hK => ?_) rfl rfl (fun _ => hR) ?_
        · refine o_not rfl ?_
          exact hK
        try dsimp only [putL, setL, evL, getL]
        refine HK_readP 8 (v := .bool (!u60)) rfl (by kernel_rfl) (fun c l s h => hQp c l s h) rfl (fun s' K hK => ?_) rfl rfl (fun _ => hR) ?_
        · refine o_pickF rfl hb59 ?_
          exact hK
        try dsimp only [putL, setL, evL, getL]
        refine HK_readP 9 (v := .bool (!u60)) rfl (by kernel_rfl) (fun c l s h => hQp c l s h) rfl (fun s' K hK => ?_) rfl rfl (fun _ => hR) ?_
        · refine o_move ?_
          exact hK
        try dsimp only [putL, setL, evL, getL]
        rcases Bool.eq_false_or_eq_true (!u60) with hb61 | hb61
        · replace H := iteT hb61 H
          refine HK_passP 10 rfl (by kernel_rfl) (fun c l s h => hQp c l s h) ?_ (fun _ => hR) ?_
          · exact wantF (j := 9) (b := false) (t := 67) (c := !u60) rfl rfl rfl rfl hb61
          try dsimp only [putL, setL, evL, getL]
          refine HK_passP 11 rfl (by kernel_rfl) (fun c l s h => hQp c l s h) ?_ (fun _ => hR) ?_
          · exact wantF (j := 9) (b := false) (t := 67) (c := !u60) rfl rfl rfl rfl hb61
          try dsimp only [putL, setL, evL, getL]
          refine HK_passP 12 rfl (by kernel_rfl) (fun c l s h => hQp c l s h) ?_ (fun _ => hR) ?_
          · exact wantF (j := 9) (b := false) (t := 67) (c := !u60) rfl rfl rfl rfl hb61
          try dsimp only [putL, setL, evL, getL]
          refine HK_passP 13 rfl (by kernel_rfl) (fun c l s h => hQp c l s h) ?_ (fun _ => hR) ?_
          · exact wantF (j := 9) (b := false) (t := 67) (c := !u60) rfl rfl rfl rfl hb61
          try dsimp only [putL, setL, evL, getL]
          refine HK_readP 14 (v := .bool true) rfl (by kernel_rfl) (fun c l s h => hQp c l s h) rfl (fun s' K hK => ?_) rfl rfl (fun _ => hR) ?_
          · refine o_pickT rfl hb61 ?_
            exact hK
          try dsimp only [putL, setL, evL, getL]
          refine HK_readP 15 (v := .bool true) rfl (by kernel_rfl) (fun c l s h => hQp c l s h) rfl (fun s' K hK => ?_) rfl rfl (fun _ => hR) ?_
          · refine o_move ?_
            exact hK
          try dsimp only [putL, setL, evL, getL]
          refine HK_passP 16 rfl (by kernel_rfl) (fun c l s h => hQp c l s h) ?_ (fun _ => hR) ?_
          · exact wantF (j := 15) (b := false) (t := 73) (c := true) rfl rfl rfl rfl rfl
          try dsimp only [putL, setL, evL, getL]
          refine HK_passP 17 rfl (by kernel_rfl) (fun c l s h => hQp c l s h) ?_ (fun _ => hR) ?_
          · exact wantF (j := 15) (b := false) (t := 73) (c := true) rfl rfl rfl rfl rfl
          try dsimp only [putL, setL, evL, getL]
          refine HK_passP 18 rfl (by kernel_rfl) (fun c l s h => hQp c l s h) ?_ (fun _ => hR) ?_
          · exact wantF (j := 15) (b := false) (t := 73) (c := true) rfl rfl rfl rfl rfl
          try dsimp only [putL, setL, evL, getL]
          refine HK_passP 19 rfl (by kernel_rfl) (fun c l s h => hQp c l s h) ?_ (fun _ => hR) ?_
          · exact wantF (j := 15) (b := false) (t := 73) (c := true) rfl rfl rfl rfl rfl
          try dsimp only [putL, setL, evL, getL]
          refine HK_passP 20 rfl (by kernel_rfl) (fun c l s h => hQp c l s h) ?_ (fun _ => hR) ?_
          · exact wantF (j := 15) (b := false) (t := 73) (c := true) rfl rfl rfl rfl rfl
          try dsimp only [putL, setL, evL, getL]
          refine HK_readP 21 (v := .bool true) rfl (by kernel_rfl) (fun c l s h => hQp c l s h) rfl (fun s' K hK => ?_) rfl rfl (fun _ => hR) ?_
          · refine o_pickT rfl rfl ?_
            exact hK
          try dsimp only [putL, setL, evL, getL]
          refine HK_done (fun _ => hR) (by kernel_rfl) ?_
          exact hK50 _ _ ⟨true, H, rfl, hH.sel [2, 3, 7, 0, 1, 5, 6, 4, 8] (by decide)⟩
        · replace H := iteF hb61 H
          refine HK_readP 10 (v := .slice A19 u16.2.2.2.2.1.length c19) rfl (by kernel_rfl) (fun c l s h => hQp c l s h) (wantT (j := 9) (b := false) (t := 67) (c := !u60) rfl rfl rfl rfl hb61) (fun s' K hK => ?_) rfl rfl (fun _ => hR) ?_
          · refine o_move ?_
            exact hK
          try dsimp only [putL, setL, evL, getL]
          refine HK_readP 11 (v := .slice A26 u23.2.2.2.2.1.length c26) rfl (by kernel_rfl) (fun c l s h => hQp c l s h) (wantT (j := 9) (b := false) (t := 67) (c := !u60) rfl rfl rfl rfl hb61) (fun s' K hK => ?_) rfl rfl (fun _ => hR) ?_
          · refine o_move ?_
            exact hK
          try dsimp only [putL, setL, evL, getL]
          refine HK_more [12] (by kernel_rfl) rfl (fun _ => hR) ⟨⟨_, rfl, Or.inl ⟨(wantT (j := 9) (b := false) (t := 67) (c := !u60) rfl rfl rfl rfl hb61), ?_⟩⟩, trivial⟩
          replace H := headE H
          obtain ⟨u62, hu62, H⟩ := H
          skip
          refine o_call (args := #[.slice A19 u16.2.2.2.2.1.length c19, .slice A26 u23.2.2.2.2.1.length c26]) Try.func18 rfl rfl rfl (laws_sameInts.ok s60 s60 no A19 c19 u16.2.2.2.2.1 A26 c26 u23.2.2.2.2.1 (hH.rd 7 rfl) (hH.rd 11 rfl) (Hp.own (Bs.refl s60)) _ hu62) ?_
          rintro _ s62 ⟨rfl, hD⟩
          replace hR := hR.trans hD.gro
          replace hH := hH.back0T hD
          clear hD
          dsimp only [addC, setC, rmC, selC, getC] at hH
          try dsimp only [putL, setL, evL, getL]
          refine HK_readP 13 (v := .bool (!u62)) rfl (by kernel_rfl) (fun c l s h => hQp c l s h) (wantT (j := 9) (b := false) (t := 67) (c := !u60) rfl rfl rfl rfl hb61) (fun s' K hK => ?_) rfl rfl (fun _ => hR) ?_
          · refine o_not rfl ?_
            exact hK
          try dsimp only [putL, setL, evL, getL]
          refine HK_readP 14 (v := .bool (!u62)) rfl (by kernel_rfl) (fun c l s h => hQp c l s h) rfl (fun s' K hK => ?_) rfl rfl (fun _ => hR) ?_
          · refine o_pickF rfl hb61 ?_
            exact hK
          try dsimp only [putL, setL, evL, getL]
          refine HK_readP 15 (v := .bool (!u62)) rfl (by kernel_rfl) (fun c l s h => hQp c l s h) rfl (fun s' K hK => ?_) rfl rfl (fun _ => hR) ?_
          · refine o_move ?_
            exact hK
          try dsimp only [putL, setL, evL, getL]
          rcases Bool.eq_false_or_eq_true (!u62) with hb63 | hb63
          · replace H := iteT hb63 H
            refine HK_passP 16 rfl (by kernel_rfl) (fun c l s h => hQp c l s h) ?_ (fun _ => hR) ?_
            · exact wantF (j := 15) (b := false) (t := 73) (c := !u62) rfl rfl rfl rfl hb63
            try dsimp only [putL, setL, evL, getL]
            refine HK_passP 17 rfl (by kernel_rfl) (fun c l s h => hQp c l s h) ?_ (fun _ => hR) ?_
            · exact wantF (j := 15) (b := false) (t := 73) (c := !u62) rfl rfl rfl rfl hb63
            try dsimp only [putL, setL, evL, getL]
            refine HK_passP 18 rfl (by kernel_rfl) (fun c l s h => hQp c l s h) ?_ (fun _ => hR) ?_
            · exact wantF (j := 15) (b := false) (t := 73) (c := !u62) rfl rfl rfl rfl hb63
            try dsimp only [putL, setL, evL, getL]
            refine HK_passP 19 rfl (by kernel_rfl) (fun c l s h => hQp c l s h) ?_ (fun _ => hR) ?_
            · exact wantF (j := 15) (b := false) (t := 73) (c := !u62) rfl rfl rfl rfl hb63
            try dsimp only [putL, setL, evL, getL]
            refine HK_passP 20 rfl (by kernel_rfl) (fun c l s h => hQp c l s h) ?_ (fun _ => hR) ?_
            · exact wantF (j := 15) (b := false) (t := 73) (c := !u62) rfl rfl rfl rfl hb63
            try dsimp only [putL, setL, evL, getL]
            refine HK_readP 21 (v := .bool true) rfl (by kernel_rfl) (fun c l s h => hQp c l s h) rfl (fun s' K hK => ?_) rfl rfl (fun _ => hR) ?_
            · refine o_pickT rfl hb63 ?_
              exact hK
            try dsimp only [putL, setL, evL, getL]
            refine HK_done (fun _ => hR) (by kernel_rfl) ?_
            exact hK50 _ _ ⟨true, H, rfl, hH.sel [2, 3, 7, 0, 1, 5, 6, 4, 8] (by decide)⟩
          · replace H := iteF hb63 H
            refine HK_read 16 (v := .agg #[.int .i64 u8.1, .slice A9 u8.2.1.length c9, .slice A10 u8.2.2.1.length c10, .int .i64 u8.2.2.2.1]) rfl (by kernel_rfl) (fun c l s h => hQp c l s h) (wantT (j := 15) (b := false) (t := 73) (c := !u62) rfl rfl rfl rfl hb63) (fun s' hR' K hK => ?_) rfl rfl hR ?_
            · refine o_loads' [.int .i64 u8.1, .slice A9 u8.2.1.length c9, .slice A10 u8.2.2.1.length c10, .int .i64 u8.2.2.2.1] rfl Try.underlying37 rfl tI37 rfl (fun j v hj => has_gro hR' ((hH0.partv 4 rfl (0) [.int .i64 u8.1, .slice A9 u8.2.1.length c9, .slice A10 u8.2.2.1.length c10, .int .i64 u8.2.2.2.1] rfl) j v hj)) ?_
              exact hK
            try dsimp only [putL, setL, evL, getL]
            refine HK_read 18 (v := .agg #[.int .i64 u8.1, .slice A9 u8.2.1.length c9, .slice A10 u8.2.2.1.length c10, .int .i64 u8.2.2.2.1]) rfl (by kernel_rfl) (fun c l s h => hQp c l s h) (wantT (j := 15) (b := false) (t := 73) (c := !u62) rfl rfl rfl rfl hb63) (fun s' hR' K hK => ?_) rfl rfl hR ?_
            · refine o_loads' [.int .i64 u8.1, .slice A9 u8.2.1.length c9, .slice A10 u8.2.2.1.length c10, .int .i64 u8.2.2.2.1] rfl Try.underlying37 rfl tI37 rfl (fun j v hj => has_gro hR' ((hH0.partv 4 rfl (0) [.int .i64 u8.1, .slice A9 u8.2.1.length c9, .slice A10 u8.2.2.1.length c10, .int .i64 u8.2.2.2.1] rfl) j v hj)) ?_
              exact hK
            try dsimp only [putL, setL, evL, getL]
            refine HK_more [17] (by kernel_rfl) rfl (fun _ => hR) ⟨⟨_, rfl, Or.inl ⟨(wantT (j := 15) (b := false) (t := 73) (c := !u62) rfl rfl rfl rfl hb63), ?_⟩⟩, trivial⟩
            replace H := headE H
            obtain ⟨u64, hu64, H⟩ := H
            skip
            refine o_call (args := #[.agg #[.int .i64 u8.1, .slice A9 u8.2.1.length c9, .slice A10 u8.2.2.1.length c10, .int .i64 u8.2.2.2.1]]) Try.func28 rfl rfl rfl (impl_GoodBuf.ok s62 s62 no u8.1 A9 c9 u8.2.1 A10 c10 u8.2.2.1 u8.2.2.2.1 (hH.rd 0 rfl) (hH.rd 1 rfl) (Hp.own (Bs.refl s62)) _ hu64) ?_
            rintro _ s64 ⟨rfl, hD⟩
            replace hR := hR.trans hD.gro
            replace hH := hH.back0T hD
            clear hD
            dsimp only [addC, setC, rmC, selC, getC] at hH
            try dsimp only [putL, setL, evL, getL]
            refine HK_more [19] (by kernel_rfl) rfl (fun _ => hR) ⟨⟨_, rfl, Or.inl ⟨(wantT (j := 15) (b := false) (t := 73) (c := !u62) rfl rfl rfl rfl hb63), ?_⟩⟩, trivial⟩
            replace H := headE H
            obtain ⟨u65, hu65, H⟩ := H
            skip
            refine o_call (args := #[.agg #[.int .i64 u8.1, .slice A9 u8.2.1.length c9, .slice A10 u8.2.2.1.length c10, .int .i64 u8.2.2.2.1]]) Try.func29 rfl rfl rfl (spec_GoodBuf.ok s64 s64 no u8.1 A9 c9 u8.2.1 A10 c10 u8.2.2.1 u8.2.2.2.1 (hH.rd 0 rfl) (hH.rd 1 rfl) (Hp.own (Bs.refl s64)) _ hu65) ?_
            rintro _ s65 ⟨rfl, hD⟩
            replace hR := hR.trans hD.gro
            replace hH := hH.back0T hD
            clear hD
            dsimp only [addC, setC, rmC, selC, getC] at hH
            try dsimp only [putL, setL, evL, getL]
            refine HK_readP 20 (v := .bool (u64 != u65)) rfl (by kernel_rfl) (fun c l s h => hQp c l s h) (wantT (j := 15) (b := false) (t := 73) (c := !u62) rfl rfl rfl rfl hb63) (fun s' K hK => ?_) rfl rfl (fun _ => hR) ?_
            · refine o_neb rfl rfl Try.underlying4 ?_
              exact hK
            try dsimp only [putL, setL, evL, getL]
            refine HK_readP 21 (v := .bool (u64 != u65)) rfl (by kernel_rfl) (fun c l s h => hQp c l s h) rfl (fun s' K hK => ?_) rfl rfl (fun _ => hR) ?_
            · refine o_pickF rfl hb63 ?_
              exact hK
            try dsimp only [putL, setL, evL, getL]
            refine HK_done (fun _ => hR) (by kernel_rfl) ?_
            exact hK50 _ _ ⟨u64 != u65, H, rfl, hH.sel [2, 3, 7, 0, 1, 5, 6, 4, 8] (by decide)⟩
    · rintro l' s66 ⟨x58, H, hl, hH⟩
      generalize getL l' 58 = j58, getL l' 59 = j59, getL l' 60 = j60, getL l' 61 = j61, getL l' 62 = j62, getL l' 63 = j63, getL l' 64 = j64, getL l' 65 = j65, getL l' 66 = j66, getL l' 67 = j67, getL l' 68 = j68, getL l' 69 = j69, getL l' 70 = j70, getL l' 71 = j71, getL l' 72 = j72, getL l' 73 = j73, getL l' 74 = j74, getL l' 75 = j75, getL l' 76 = j76, getL l' 77 = j77, getL l' 78 = j78 at hl
      subst hl
      replace H := hG50 _ H
      try dsimp only at H
      rcases Bool.eq_false_or_eq_true x58 with hb67 | hb67
      · replace H := iteT hb67 H
        refine HT_true (congrArg Value.bool hb67) ?_
        refine HT_seq_k ?_
        intro K68 hK68
        refine HT_region ?_
        refine HL_cons rfl ?_
        refine o_assign ?_
        try dsimp only [putL, setL, evL, getL]
        refine HL_nil ?_
        refine hK68 _ _ ?_
        refine HT_ret ?_
        exact hQr _ _ [.bool false] ⟨rfl, trivial⟩ (retH (fun r => laws_FnBuffer.post sb s F0 r _ _) (show some _ = some r from H) ⟨rfl, hH.sel [] (by decide)⟩)
      · replace H := iteF hb67 H
        refine HT_false (congrArg Value.bool hb67) ?_
        refine HT_skip ?_
        refine hK49 _ _ ?_
        refine joinH H fun G69 hG69 H => ?_
        refine HT_joinK (fun l' s' => G69 (.go ()) = some r ∧ l' = [.slice A0p p0.length c0p, .slice A1p p1.length c1p, undef, undef, getL l' 4, .pointer (some ⟨b13, 0, none⟩), .slice A11 u8.2.2.2.2.1.length c11, .slice A12 u8.2.2.2.2.2.length c12, .pointer (some ⟨b20, 0, none⟩), .slice A19 u16.2.2.2.2.1.length c19, .bool u16.2.2.2.2.2, .pointer (some ⟨b27, 0, none⟩), .slice A26 u23.2.2.2.2.1.length c26, .bool u23.2.2.2.2.2, getL l' 14, getL l' 15, getL l' 16, getL l' 17, getL l' 18, getL l' 19, getL l' 20, undef, undef, undef, undef, undef, undef, undef, undef, undef, undef, undef, undef, .slice A0p p0.length c0p, .slice A1p p1.length c1p, .bool u4, .tuple #[.agg #[.int .i64 u8.1, .slice A9 u8.2.1.length c9, .slice A10 u8.2.2.1.length c10, .int .i64 u8.2.2.2.1], .slice A11 u8.2.2.2.2.1.length c11, .slice A12 u8.2.2.2.2.2.length c12], .slice A0p p0.length c0p, .tuple #[.agg #[.int .i64 u8.1, .slice A9 u8.2.1.length c9, .slice A10 u8.2.2.1.length c10, .int .i64 u8.2.2.2.1], .slice A11 u8.2.2.2.2.1.length c11, .slice A12 u8.2.2.2.2.2.length c12], .agg #[.int .i64 u8.1, .slice A9 u8.2.1.length c9, .slice A10 u8.2.2.1.length c10, .int .i64 u8.2.2.2.1], .slice A11 u8.2.2.2.2.1.length c11, .slice A12 u8.2.2.2.2.2.length c12, .tuple #[.agg #[.int .i64 u16.1, .slice A17 u16.2.1.length c17, .slice A18 u16.2.2.1.length c18, .int .i64 u16.2.2.2.1], .slice A19 u16.2.2.2.2.1.length c19, .bool u16.2.2.2.2.2], .agg #[.int .i64 u8.1, .slice A9 u8.2.1.length c9, .slice A10 u8.2.2.1.length c10, .int .i64 u8.2.2.2.1], .slice A11 u8.2.2.2.2.1.length c11, .slice A12 u8.2.2.2.2.2.length c12, .tuple #[.agg #[.int .i64 u16.1, .slice A17 u16.2.1.length c17, .slice A18 u16.2.2.1.length c18, .int .i64 u16.2.2.2.1], .slice A19 u16.2.2.2.2.1.length c19, .bool u16.2.2.2.2.2], .agg #[.int .i64 u16.1, .slice A17 u16.2.1.length c17, .slice A18 u16.2.2.1.length c18, .int .i64 u16.2.2.2.1], .slice A19 u16.2.2.2.2.1.length c19, .bool u16.2.2.2.2.2, .tuple #[.agg #[.int .i64 u23.1, .slice A24 u23.2.1.length c24, .slice A25 u23.2.2.1.length c25, .int .i64 u23.2.2.2.1], .slice A26 u23.2.2.2.2.1.length c26, .bool u23.2.2.2.2.2], .agg #[.int .i64 u8.1, .slice A9 u8.2.1.length c9, .slice A10 u8.2.2.1.length c10, .int .i64 u8.2.2.2.1], .slice A11 u8.2.2.2.2.1.length c11, .slice A12 u8.2.2.2.2.2.length c12, .tuple #[.agg #[.int .i64 u23.1, .slice A24 u23.2.1.length c24, .slice A25 u23.2.2.1.length c25, .int .i64 u23.2.2.2.1], .slice A26 u23.2.2.2.2.1.length c26, .bool u23.2.2.2.2.2], .agg #[.int .i64 u23.1, .slice A24 u23.2.1.length c24, .slice A25 u23.2.2.1.length c25, .int .i64 u23.2.2.2.1], .slice A26 u23.2.2.2.2.1.length c26, .bool u23.2.2.2.2.2, j58, j59, j60, j61, j62, j63, j64, j65, j66, j67, j68, j69, j70, j71, j72, j73, j74, j75, j76, j77, j78, .bool x58, getL l' 80, getL l' 81, getL l' 82, getL l' 83, getL l' 84, getL l' 85, getL l' 86, getL l' 87, getL l' 88, getL l' 89, getL l' 90, getL l' 91, getL l' 92, getL l' 93, getL l' 94, getL l' 95, getL l' 96, getL l' 97, getL l' 98, getL l' 99, getL l' 100, getL l' 101, getL l' 102, getL l' 103, getL l' 104, getL l' 105, getL l' 106, getL l' 107, getL l' 108, getL l' 109, getL l' 110, getL l' 111, getL l' 112, getL l' 113, getL l' 114, getL l' 115, getL l' 116, getL l' 117, getL l' 118, getL l' 119, getL l' 120, getL l' 121, getL l' 122, getL l' 123, getL l' 124, getL l' 125, getL l' 126, getL l' 127, getL l' 128, getL l' 129, getL l' 130, getL l' 131, getL l' 132, getL l' 133, getL l' 134, getL l' 135, getL l' 136, getL l' 137, getL l' 138, getL l' 139, getL l' 140, getL l' 141, getL l' 142, getL l' 143, getL l' 144, getL l' 145, getL l' 146, getL l' 147, getL l' 148, getL l' 149, getL l' 150, getL l' 151, getL l' 152, getL l' 153, getL l' 154, getL l' 155, getL l' 156, undef, undef, undef, undef, undef, undef, undef, undef, undef, undef, undef, undef, undef, undef, undef, undef, undef, undef, undef, undef, undef, undef, undef, undef, undef, undef, undef, undef, undef, undef, undef, undef, undef, undef, undef, undef, undef, undef, undef, undef, undef, undef, undef, undef, undef, undef, undef, undef, undef, undef, undef, undef, undef, undef, undef, undef, undef, undef, undef, undef, undef, undef, undef, undef, undef, undef, undef, undef, undef, undef, undef, undef, undef] ∧ Hp sb s F0 s' []) ?_ ?_
        · intro K69 hK69
          refine HT_seq_k ?_
          intro K176 hK176
          refine HT_region ?_
          refine HL_cons rfl ?_
          refine o_move ?_
          try dsimp only [putL, setL, evL, getL]
          refine HL_nil ?_
          refine hK176 _ _ ?_
          rcases Bool.eq_false_or_eq_true u16.2.2.2.2.2 with hb177 | hb177
          · replace H := iteT hb177 H
            refine HT_true (congrArg Value.bool hb177) ?_
            refine HT_seq_k ?_
            intro K178 hK178
            refine HT_region ?_
            refine HL_cons rfl ?_
            refine o_move ?_
            try dsimp only [putL, setL, evL, getL]
            replace H := headE H
            obtain ⟨u179, hu179, H⟩ := H
            refine HL_cons rfl ?_
            refine o_call (args := #[.slice A1p p1.length c1p]) Try.func30 rfl rfl rfl (laws_numberOf.ok sb s66 no A1p c1p p1 HRp1 (Hp.own hH.bs) _ hu179) ?_
            rintro _ s179 ⟨rfl, hD⟩
            replace hH := hH.back0 hD (Up.refl _ _ _)
            clear hD
            dsimp only [addC, setC, rmC, selC, getC] at hH
            try dsimp only [putL, setL, evL, getL]
            refine HL_cons rfl ?_
            refine o_move ?_
            try dsimp only [putL, setL, evL, getL]
            refine HL_cons rfl ?_
            refine o_len rfl Try.underlying24 ?_
            try dsimp only [putL, setL, evL, getL]
            refine HL_cons rfl ?_
            refine o_bin rfl rfl rfl ?_
            try dsimp only [putL, setL, evL, getL]
            replace H := headE H
            obtain ⟨u180, hu180, H⟩ := H
            refine HL_cons rfl ?_
            refine o_rem' rfl rfl hu180 ?_
            try dsimp only [putL, setL, evL, getL]
            refine HL_cons rfl ?_
            refine o_assign ?_
            try dsimp only [putL, setL, evL, getL]
            refine HL_nil ?_
            refine hK178 _ _ ?_
            refine joinH H fun G181 hG181 H => ?_
            refine HT_joinK (fun l' s' => ∃ (b196 : Nat) (x197 : List (Int)) (A197 : Option Addr) (c197 : Nat) (x198 : Bool) (x199 : Int) (x200 : List (Int)) (A200 : Option Addr) (c200 : Nat) (x201 : List (Int)) (A201 : Option Addr) (c201 : Nat) (x202 : Int), G181 (x197, x198, x199, x200, x201, x202) = some r ∧ l' = [.slice A0p p0.length c0p, .slice A1p p1.length c1p, undef, undef, .bool false, .pointer (some ⟨b13, 0, none⟩), .slice A11 u8.2.2.2.2.1.length c11, .slice A12 u8.2.2.2.2.2.length c12, .pointer (some ⟨b20, 0, none⟩), .slice A19 u16.2.2.2.2.1.length c19, .bool u16.2.2.2.2.2, .pointer (some ⟨b27, 0, none⟩), .slice A26 u23.2.2.2.2.1.length c26, .bool u23.2.2.2.2.2, .int .i64 u180, .pointer (some ⟨b196, 0, none⟩), .slice A197 x197.length c197, .bool x198, undef, undef, undef, undef, undef, undef, undef, undef, undef, undef, undef, undef, undef, undef, undef, .slice A0p p0.length c0p, .slice A1p p1.length c1p, .bool u4, .tuple #[.agg #[.int .i64 u8.1, .slice A9 u8.2.1.length c9, .slice A10 u8.2.2.1.length c10, .int .i64 u8.2.2.2.1], .slice A11 u8.2.2.2.2.1.length c11, .slice A12 u8.2.2.2.2.2.length c12], .slice A0p p0.length c0p, .tuple #[.agg #[.int .i64 u8.1, .slice A9 u8.2.1.length c9, .slice A10 u8.2.2.1.length c10, .int .i64 u8.2.2.2.1], .slice A11 u8.2.2.2.2.1.length c11, .slice A12 u8.2.2.2.2.2.length c12], .agg #[.int .i64 u8.1, .slice A9 u8.2.1.length c9, .slice A10 u8.2.2.1.length c10, .int .i64 u8.2.2.2.1], .slice A11 u8.2.2.2.2.1.length c11, .slice A12 u8.2.2.2.2.2.length c12, .tuple #[.agg #[.int .i64 u16.1, .slice A17 u16.2.1.length c17, .slice A18 u16.2.2.1.length c18, .int .i64 u16.2.2.2.1], .slice A19 u16.2.2.2.2.1.length c19, .bool u16.2.2.2.2.2], .agg #[.int .i64 u8.1, .slice A9 u8.2.1.length c9, .slice A10 u8.2.2.1.length c10, .int .i64 u8.2.2.2.1], .slice A11 u8.2.2.2.2.1.length c11, .slice A12 u8.2.2.2.2.2.length c12, .tuple #[.agg #[.int .i64 u16.1, .slice A17 u16.2.1.length c17, .slice A18 u16.2.2.1.length c18, .int .i64 u16.2.2.2.1], .slice A19 u16.2.2.2.2.1.length c19, .bool u16.2.2.2.2.2], .agg #[.int .i64 u16.1, .slice A17 u16.2.1.length c17, .slice A18 u16.2.2.1.length c18, .int .i64 u16.2.2.2.1], .slice A19 u16.2.2.2.2.1.length c19, .bool u16.2.2.2.2.2, .tuple #[.agg #[.int .i64 u23.1, .slice A24 u23.2.1.length c24, .slice A25 u23.2.2.1.length c25, .int .i64 u23.2.2.2.1], .slice A26 u23.2.2.2.2.1.length c26, .bool u23.2.2.2.2.2], .agg #[.int .i64 u8.1, .slice A9 u8.2.1.length c9, .slice A10 u8.2.2.1.length c10, .int .i64 u8.2.2.2.1], .slice A11 u8.2.2.2.2.1.length c11, .slice A12 u8.2.2.2.2.2.length c12, .tuple #[.agg #[.int .i64 u23.1, .slice A24 u23.2.1.length c24, .slice A25 u23.2.2.1.length c25, .int .i64 u23.2.2.2.1], .slice A26 u23.2.2.2.2.1.length c26, .bool u23.2.2.2.2.2], .agg #[.int .i64 u23.1, .slice A24 u23.2.1.length c24, .slice A25 u23.2.2.1.length c25, .int .i64 u23.2.2.2.1], .slice A26 u23.2.2.2.2.1.length c26, .bool u23.2.2.2.2.2, j58, j59, j60, j61, j62, j63, j64, j65, j66, j67, j68, j69, j70, j71, j72, j73, j74, j75, j76, j77, j78, .bool x58, .bool u16.2.2.2.2.2, .slice A1p p1.length c1p, .int .i64 u179, .slice A11 u8.2.2.2.2.1.length c11, .int .i64 (u8.2.2.2.2.1.length : Int), .int .i64 (IntKind.i64.wrap ((u8.2.2.2.2.1.length : Int) + 1)), .int .i64 u180, getL l' 87, getL l' 88, getL l' 89, getL l' 90, getL l' 91, getL l' 92, getL l' 93, getL l' 94, getL l' 95, getL l' 96, getL l' 97, getL l' 98, undef, undef, undef, undef, undef, undef, undef, undef, undef, undef, undef, undef, undef, undef, undef, undef, undef, undef, undef, undef, undef, undef, undef, undef, undef, undef, undef, undef, undef, undef, undef, undef, undef, undef, undef, undef, undef, undef, undef, undef, undef, undef, undef, undef, undef, undef, undef, undef, undef, undef, undef, undef, undef, undef, undef, undef, undef, undef, undef, undef, undef, undef, undef, undef, undef, undef, undef, undef, undef, undef, undef, undef, undef, undef, undef, undef, undef, undef, undef, undef, undef, undef, undef, undef, undef, undef, undef, undef, undef, undef, undef, undef, undef, undef, undef, undef, undef, undef, undef, undef, undef, undef, undef, undef, undef, undef, undef, undef, undef, undef, undef, undef, undef, undef, undef, undef, undef, undef, undef, undef, undef, undef, undef, undef, undef, undef, undef, undef, undef, undef, undef] ∧ Hp sb s F0 s' [Ck.ol OI 3 A197 c197 x197, Ck.ol OI 3 A200 c200 x200, Ck.ol OI 3 A201 c201 x201, Ck.ol OI 3 A11 c11 u8.2.2.2.2.1, Ck.ol OI 3 A12 c12 u8.2.2.2.2.2, Ck.ol OI 3 A19 c19 u16.2.2.2.2.1, Ck.ol OI 3 A9 c9 u8.2.1, Ck.ol OI 3 A10 c10 u8.2.2.1, Ck.ol OI 3 A17 c17 u16.2.1, Ck.ol OI 3 A18 c18 u16.2.2.1, Ck.ov b13 [.int .i64 u8.1, .slice A9 u8.2.1.length c9, .slice A10 u8.2.2.1.length c10, .int .i64 u8.2.2.2.1] 37, Ck.ov b20 [.int .i64 u16.1, .slice A17 u16.2.1.length c17, .slice A18 u16.2.2.1.length c18, .int .i64 u16.2.2.2.1] 37, Ck.ov b196 [.int .i64 x199, .slice A200 x200.length c200, .slice A201 x201.length c201, .int .i64 x202] 37]) ?_ ?_
            · intro K181 hK181
              refine HX_draw hMix ?_
              refine HX_lim (R := fun _ => True) (k := 0) (fun s' => Gro s179 s') 13 ?_
              have hR := Gro.refl s179
              have hH0 := hH
              refine HK_read 0 (v := .agg #[.int .i64 u8.1, .slice A9 u8.2.1.length c9, .slice A10 u8.2.2.1.length c10, .int .i64 u8.2.2.2.1]) rfl (by kernel_rfl) (fun c l s h => hQp c l s h) rfl (fun s' hR' K hK => ?_) rfl rfl hR ?_
              · refine o_loads' [.int .i64 u8.1, .slice A9 u8.2.1.length c9, .slice A10 u8.2.2.1.length c10, .int .i64 u8.2.2.2.1] rfl Try.underlying37 rfl tI37 rfl (fun j v hj => has_gro hR' ((hH0.partv 7 rfl (0) [.int .i64 u8.1, .slice A9 u8.2.1.length c9, .slice A10 u8.2.2.1.length c10, .int .i64 u8.2.2.2.1] rfl) j v hj)) ?_
                exact hK
              try dsimp only [putL, setL, evL, getL]
              refine HK_readP 1 (v := .slice A11 u8.2.2.2.2.1.length c11) rfl (by kernel_rfl) (fun c l s h => hQp c l s h) rfl (fun s' K hK => ?_) rfl rfl (fun _ => hR) ?_
              · refine o_move ?_
                exact hK
              try dsimp only [putL, setL, evL, getL]
              refine HK_readP 2 (v := .int .i64 u180) rfl (by kernel_rfl) (fun c l s h => hQp c l s h) rfl (fun s' K hK => ?_) rfl rfl (fun _ => hR) ?_
              · refine o_move ?_
                exact hK
              try dsimp only [putL, setL, evL, getL]
              replace H := headE H
              obtain ⟨x203, hx203, H⟩ := H
              refine HK_readP 3 (v := .slice (cutA A11 c11 (Int.toNat 0) (Kd.sz KI)) x203.length (c11 - Int.toNat 0)) rfl (by kernel_rfl) (fun c l s h => hQp c l s h) rfl (fun s' K hK => ?_) rfl rfl (fun _ => hR) ?_
              · refine o_cutA (xs := u8.2.2.2.2.1) (kl := .i64) (kh := .i64) (L := 0) (H := u180) rfl rfl rfl Try.underlying24 tI3 (hH.rd 0 rfl).1 hx203 ?_
                exact hK
              have D203 := @Der.cut _ _ OI 3 A11 c11 _ _ _ _ hx203
              try dsimp only [putL, setL, evL, getL]
              refine HK_readP 4 (v := .slice A12 u8.2.2.2.2.2.length c12) rfl (by kernel_rfl) (fun c l s h => hQp c l s h) rfl (fun s' K hK => ?_) rfl rfl (fun _ => hR) ?_
              · refine o_move ?_
                exact hK
              try dsimp only [putL, setL, evL, getL]
              refine HK_readP 5 (v := .int .i64 u180) rfl (by kernel_rfl) (fun c l s h => hQp c l s h) rfl (fun s' K hK => ?_) rfl rfl (fun _ => hR) ?_
              · refine o_move ?_
                exact hK
              try dsimp only [putL, setL, evL, getL]
              replace H := headE H
              obtain ⟨x204, hx204, H⟩ := H
              refine HK_readP 6 (v := .slice (cutA A12 c12 (Int.toNat 0) (Kd.sz KI)) x204.length (c12 - Int.toNat 0)) rfl (by kernel_rfl) (fun c l s h => hQp c l s h) rfl (fun s' K hK => ?_) rfl rfl (fun _ => hR) ?_
              · refine o_cutA (xs := u8.2.2.2.2.2) (kl := .i64) (kh := .i64) (L := 0) (H := u180) rfl rfl rfl Try.underlying24 tI3 (hH.rd 1 rfl).1 hx204 ?_
                exact hK
              have D204 := @Der.cut _ _ OI 3 A12 c12 _ _ _ _ hx204
              try dsimp only [putL, setL, evL, getL]
              refine HK_more [7, 12] (by kernel_rfl) rfl (fun _ => hR) ⟨⟨_, rfl, Or.inl ⟨rfl, ?_⟩⟩, ⟨_, rfl, Or.inl ⟨rfl, ?_⟩⟩, trivial⟩
              · replace H := headE H
                obtain ⟨u205, hu205, H⟩ := H
                skip
                refine o_call (args := #[.agg #[.int .i64 u8.1, .slice A9 u8.2.1.length c9, .slice A10 u8.2.2.1.length c10, .int .i64 u8.2.2.2.1], .slice (cutA A11 c11 (Int.toNat 0) (Kd.sz KI)) x203.length (c11 - Int.toNat 0), .slice (cutA A12 c12 (Int.toNat 0) (Kd.sz KI)) x204.length (c12 - Int.toNat 0)]) Try.func25 rfl rfl rfl (impl_PutBuf.ok s179 s179 no u8.1 A9 c9 u8.2.1 A10 c10 u8.2.2.1 u8.2.2.2.1 (cutA A11 c11 (Int.toNat 0) (Kd.sz KI)) (c11 - Int.toNat 0) x203 (cutA A12 c12 (Int.toNat 0) (Kd.sz KI)) (c12 - Int.toNat 0) x204 (hH.rd 3 rfl) (hH.rd 4 rfl) (D203 _ _ hH.bs (hH.ckP 0)) (D204 _ _ hH.bs (hH.ckP 1)) (Hp.own (Bs.refl s179)) _ hu205) ?_
                rintro _ s205 ⟨A206, c206, A207, c207, A208, c208, rfl, hD⟩
                replace hR := hR.trans hD.gro
                replace hH := hH.back0T hD
                clear hD
                dsimp only [addC, setC, rmC, selC, getC] at hH
                try dsimp only [putL, setL, evL, getL]
                refine HK_readP 8 (v := .tuple #[.agg #[.int .i64 u205.1, .slice A206 u205.2.1.length c206, .slice A207 u205.2.2.1.length c207, .int .i64 u205.2.2.2.1], .slice A208 u205.2.2.2.2.1.length c208, .bool u205.2.2.2.2.2]) rfl (by kernel_rfl) (fun c l s h => hQp c l s h) rfl (fun s' K hK => ?_) rfl rfl (fun _ => hR) ?_
                · refine o_move ?_
                  exact hK
                try dsimp only [putL, setL, evL, getL]
                refine HK_readP 9 (v := .agg #[.int .i64 u205.1, .slice A206 u205.2.1.length c206, .slice A207 u205.2.2.1.length c207, .int .i64 u205.2.2.2.1]) rfl (by kernel_rfl) (fun c l s h => hQp c l s h) rfl (fun s' K hK => ?_) rfl rfl (fun _ => hR) ?_
                · refine o_extract rfl rfl ?_
                  exact hK
                try dsimp only [putL, setL, evL, getL]
                refine HK_readP 10 (v := .slice A208 u205.2.2.2.2.1.length c208) rfl (by kernel_rfl) (fun c l s h => hQp c l s h) rfl (fun s' K hK => ?_) rfl rfl (fun _ => hR) ?_
                · refine o_extract rfl rfl ?_
                  exact hK
                try dsimp only [putL, setL, evL, getL]
                refine HK_readP 11 (v := .bool u205.2.2.2.2.2) rfl (by kernel_rfl) (fun c l s h => hQp c l s h) rfl (fun s' K hK => ?_) rfl rfl (fun _ => hR) ?_
                · refine o_extract rfl rfl ?_
                  exact hK
                try dsimp only [putL, setL, evL, getL]
                refine HK_more [12] (by kernel_rfl) rfl (fun _ => hR) ⟨⟨_, rfl, Or.inl ⟨rfl, ?_⟩⟩, trivial⟩
                skip
                refine o_allocH hH tI37 ?_
                intro b209 s209 hH' hG
                replace hR := hR.trans hG
                replace hH : Hp sb s F0 s209 [Ck.ol OI 3 A11 c11 u8.2.2.2.2.1, Ck.ol OI 3 A12 c12 u8.2.2.2.2.2, Ck.ol OI 3 A19 c19 u16.2.2.2.2.1, Ck.ol OI 3 A9 c9 u8.2.1, Ck.ol OI 3 A10 c10 u8.2.2.1, Ck.ol OI 3 A17 c17 u16.2.1, Ck.ol OI 3 A18 c18 u16.2.2.1, Ck.ov b13 [.int .i64 u8.1, .slice A9 u8.2.1.length c9, .slice A10 u8.2.2.1.length c10, .int .i64 u8.2.2.2.1] 37, Ck.ov b20 [.int .i64 u16.1, .slice A17 u16.2.1.length c17, .slice A18 u16.2.2.1.length c18, .int .i64 u16.2.2.2.1] 37, Ck.ol OI 3 A206 c206 u205.2.1, Ck.ol OI 3 A207 c207 u205.2.2.1, Ck.ol OI 3 A208 c208 u205.2.2.2.2.1, Ck.ov b209 [.int .i64 0, .slice none 0 0, .slice none 0 0, .int .i64 0] 37] := hH'
                clear hH' hG
                try dsimp only [putL, setL, evL, getL]
                refine HK_more [13] (by kernel_rfl) rfl (fun _ => hR) ⟨⟨_, rfl, Or.inl ⟨rfl, ?_⟩⟩, trivial⟩
                skip
                refine o_stvH (vs := [.int .i64 u205.1, .slice A206 u205.2.1.length c206, .slice A207 u205.2.2.1.length c207, .int .i64 u205.2.2.2.1]) (us' := [.int .i64 u205.1, .slice A206 u205.2.1.length c206, .slice A207 u205.2.2.1.length c207, .int .i64 u205.2.2.2.1]) hH 12 rfl rfl rfl rfl rfl tI37 rfl (List.cons_ne_nil _ _) rfl rfl rfl ?_
                intro s210 hH'
                replace hH : Hp sb s F0 s210 [Ck.ol OI 3 A11 c11 u8.2.2.2.2.1, Ck.ol OI 3 A12 c12 u8.2.2.2.2.2, Ck.ol OI 3 A19 c19 u16.2.2.2.2.1, Ck.ol OI 3 A9 c9 u8.2.1, Ck.ol OI 3 A10 c10 u8.2.2.1, Ck.ol OI 3 A17 c17 u16.2.1, Ck.ol OI 3 A18 c18 u16.2.2.1, Ck.ov b13 [.int .i64 u8.1, .slice A9 u8.2.1.length c9, .slice A10 u8.2.2.1.length c10, .int .i64 u8.2.2.2.1] 37, Ck.ov b20 [.int .i64 u16.1, .slice A17 u16.2.1.length c17, .slice A18 u16.2.2.1.length c18, .int .i64 u16.2.2.2.1] 37, Ck.ol OI 3 A206 c206 u205.2.1, Ck.ol OI 3 A207 c207 u205.2.2.1, Ck.ol OI 3 A208 c208 u205.2.2.2.2.1, Ck.ov b209 [.int .i64 u205.1, .slice A206 u205.2.1.length c206, .slice A207 u205.2.2.1.length c207, .int .i64 u205.2.2.2.1] 37] := hH'
                clear hH'
                try dsimp only [putL, setL, evL, getL]
                refine HK_free (by kernel_rfl) ?_
                refine HX_lim (R := fun _ => True) (k := 0) (fun s' => Gro s210 s') 17 ?_
                have hR := Gro.refl s210
                have hH0 := hH
                refine HK_more [14] (by kernel_rfl) rfl (fun _ => hR) ⟨⟨_, rfl, Or.inl ⟨rfl, ?_⟩⟩, trivial⟩
                skip
                refine o_assign ?_
                try dsimp only [putL, setL, evL, getL]
                refine HK_more [15] (by kernel_rfl) rfl (fun _ => hR) ⟨⟨_, rfl, Or.inl ⟨rfl, ?_⟩⟩, trivial⟩
                skip
                refine o_assign ?_
                try dsimp only [putL, setL, evL, getL]
                refine HK_done (fun _ => hR) (by kernel_rfl) ?_
                exact hK181 _ _ ⟨b209, u205.2.2.2.2.1, A208, c208, u205.2.2.2.2.2, u205.1, u205.2.1, A206, c206, u205.2.2.1, A207, c207, u205.2.2.2.1, H, rfl, hH.sel [11, 9, 10, 0, 1, 2, 3, 4, 5, 6, 7, 8, 12] (by decide)⟩
              · skip
                refine o_allocH hH tI37 ?_
                intro b211 s211 hH' hG
                replace hR := hR.trans hG
                replace hH : Hp sb s F0 s211 [Ck.ol OI 3 A11 c11 u8.2.2.2.2.1, Ck.ol OI 3 A12 c12 u8.2.2.2.2.2, Ck.ol OI 3 A19 c19 u16.2.2.2.2.1, Ck.ol OI 3 A9 c9 u8.2.1, Ck.ol OI 3 A10 c10 u8.2.2.1, Ck.ol OI 3 A17 c17 u16.2.1, Ck.ol OI 3 A18 c18 u16.2.2.1, Ck.ov b13 [.int .i64 u8.1, .slice A9 u8.2.1.length c9, .slice A10 u8.2.2.1.length c10, .int .i64 u8.2.2.2.1] 37, Ck.ov b20 [.int .i64 u16.1, .slice A17 u16.2.1.length c17, .slice A18 u16.2.2.1.length c18, .int .i64 u16.2.2.2.1] 37, Ck.ov b211 [.int .i64 0, .slice none 0 0, .slice none 0 0, .int .i64 0] 37] := hH'
                clear hH' hG
                try dsimp only [putL, setL, evL, getL]
                refine HK_more [7] (by kernel_rfl) rfl (fun _ => hR) ⟨⟨_, rfl, Or.inl ⟨rfl, ?_⟩⟩, trivial⟩
                replace H := headE H
                obtain ⟨u212, hu212, H⟩ := H
                skip
                refine o_call (args := #[.agg #[.int .i64 u8.1, .slice A9 u8.2.1.length c9, .slice A10 u8.2.2.1.length c10, .int .i64 u8.2.2.2.1], .slice (cutA A11 c11 (Int.toNat 0) (Kd.sz KI)) x203.length (c11 - Int.toNat 0), .slice (cutA A12 c12 (Int.toNat 0) (Kd.sz KI)) x204.length (c12 - Int.toNat 0)]) Try.func25 rfl rfl rfl (impl_PutBuf.ok s211 s211 no u8.1 A9 c9 u8.2.1 A10 c10 u8.2.2.1 u8.2.2.2.1 (cutA A11 c11 (Int.toNat 0) (Kd.sz KI)) (c11 - Int.toNat 0) x203 (cutA A12 c12 (Int.toNat 0) (Kd.sz KI)) (c12 - Int.toNat 0) x204 (hH.rd 3 rfl) (hH.rd 4 rfl) (D203 _ _ hH.bs (hH.ckP 0)) (D204 _ _ hH.bs (hH.ckP 1)) (Hp.own (Bs.refl s211)) _ hu212) ?_
                rintro _ s212 ⟨A213, c213, A214, c214, A215, c215, rfl, hD⟩
                replace hR := hR.trans hD.gro
                replace hH := hH.back0T hD
                clear hD
                dsimp only [addC, setC, rmC, selC, getC] at hH
                try dsimp only [putL, setL, evL, getL]
                refine HK_readP 8 (v := .tuple #[.agg #[.int .i64 u212.1, .slice A213 u212.2.1.length c213, .slice A214 u212.2.2.1.length c214, .int .i64 u212.2.2.2.1], .slice A215 u212.2.2.2.2.1.length c215, .bool u212.2.2.2.2.2]) rfl (by kernel_rfl) (fun c l s h => hQp c l s h) rfl (fun s' K hK => ?_) rfl rfl (fun _ => hR) ?_
                · refine o_move ?_
                  exact hK
                try dsimp only [putL, setL, evL, getL]
                refine HK_readP 9 (v := .agg #[.int .i64 u212.1, .slice A213 u212.2.1.length c213, .slice A214 u212.2.2.1.length c214, .int .i64 u212.2.2.2.1]) rfl (by kernel_rfl) (fun c l s h => hQp c l s h) rfl (fun s' K hK => ?_) rfl rfl (fun _ => hR) ?_
                · refine o_extract rfl rfl ?_
                  exact hK
                try dsimp only [putL, setL, evL, getL]
                refine HK_readP 10 (v := .slice A215 u212.2.2.2.2.1.length c215) rfl (by kernel_rfl) (fun c l s h => hQp c l s h) rfl (fun s' K hK => ?_) rfl rfl (fun _ => hR) ?_
                · refine o_extract rfl rfl ?_
                  exact hK
                try dsimp only [putL, setL, evL, getL]
                refine HK_readP 11 (v := .bool u212.2.2.2.2.2) rfl (by kernel_rfl) (fun c l s h => hQp c l s h) rfl (fun s' K hK => ?_) rfl rfl (fun _ => hR) ?_
                · refine o_extract rfl rfl ?_
                  exact hK
                try dsimp only [putL, setL, evL, getL]
                refine HK_more [13] (by kernel_rfl) rfl (fun _ => hR) ⟨⟨_, rfl, Or.inl ⟨rfl, ?_⟩⟩, trivial⟩
                skip
                refine o_stvH (vs := [.int .i64 u212.1, .slice A213 u212.2.1.length c213, .slice A214 u212.2.2.1.length c214, .int .i64 u212.2.2.2.1]) (us' := [.int .i64 u212.1, .slice A213 u212.2.1.length c213, .slice A214 u212.2.2.1.length c214, .int .i64 u212.2.2.2.1]) hH 9 rfl rfl rfl rfl rfl tI37 rfl (List.cons_ne_nil _ _) rfl rfl rfl ?_
                intro s216 hH'
                replace hH : Hp sb s F0 s216 [Ck.ol OI 3 A11 c11 u8.2.2.2.2.1, Ck.ol OI 3 A12 c12 u8.2.2.2.2.2, Ck.ol OI 3 A19 c19 u16.2.2.2.2.1, Ck.ol OI 3 A9 c9 u8.2.1, Ck.ol OI 3 A10 c10 u8.2.2.1, Ck.ol OI 3 A17 c17 u16.2.1, Ck.ol OI 3 A18 c18 u16.2.2.1, Ck.ov b13 [.int .i64 u8.1, .slice A9 u8.2.1.length c9, .slice A10 u8.2.2.1.length c10, .int .i64 u8.2.2.2.1] 37, Ck.ov b20 [.int .i64 u16.1, .slice A17 u16.2.1.length c17, .slice A18 u16.2.2.1.length c18, .int .i64 u16.2.2.2.1] 37, Ck.ov b211 [.int .i64 u212.1, .slice A213 u212.2.1.length c213, .slice A214 u212.2.2.1.length c214, .int .i64 u212.2.2.2.1] 37, Ck.ol OI 3 A213 c213 u212.2.1, Ck.ol OI 3 A214 c214 u212.2.2.1, Ck.ol OI 3 A215 c215 u212.2.2.2.2.1] := hH'
                clear hH'
                try dsimp only [putL, setL, evL, getL]
                refine HK_free (by kernel_rfl) ?_
                refine HX_lim (R := fun _ => True) (k := 0) (fun s' => Gro s216 s') 17 ?_
                have hR := Gro.refl s216
                have hH0 := hH
                refine HK_more [14] (by kernel_rfl) rfl (fun _ => hR) ⟨⟨_, rfl, Or.inl ⟨rfl, ?_⟩⟩, trivial⟩
                skip
                refine o_assign ?_
                try dsimp only [putL, setL, evL, getL]
                refine HK_more [15] (by kernel_rfl) rfl (fun _ => hR) ⟨⟨_, rfl, Or.inl ⟨rfl, ?_⟩⟩, trivial⟩
                skip
                refine o_assign ?_
                try dsimp only [putL, setL, evL, getL]
                refine HK_done (fun _ => hR) (by kernel_rfl) ?_
                exact hK181 _ _ ⟨b211, u212.2.2.2.2.1, A215, c215, u212.2.2.2.2.2, u212.1, u212.2.1, A213, c213, u212.2.2.1, A214, c214, u212.2.2.2.1, H, rfl, hH.sel [12, 10, 11, 0, 1, 2, 3, 4, 5, 6, 7, 8, 9] (by decide)⟩
            · rintro l' s217 ⟨b196, x197, A197, c197, x198, x199, x200, A200, c200, x201, A201, c201, x202, H, hl, hH⟩
              generalize getL l' 87 = j87, getL l' 88 = j88, getL l' 89 = j89, getL l' 90 = j90, getL l' 91 = j91, getL l' 92 = j92, getL l' 93 = j93, getL l' 94 = j94, getL l' 95 = j95, getL l' 96 = j96, getL l' 97 = j97, getL l' 98 = j98 at hl
              subst hl
              replace H := hG181 _ H
              try dsimp only at H
              refine joinH H fun G218 hG218 H => ?_
              refine HT_joinK (fun l' s' => ∃ (b233 : Nat) (x234 : List (Int)) (A234 : Option Addr) (c234 : Nat) (x235 : Bool) (x236 : Int) (x237 : List (Int)) (A237 : Option Addr) (c237 : Nat) (x238 : List (Int)) (A238 : Option Addr) (c238 : Nat) (x239 : Int), G218 (x234, x235, x236, x237, x238, x239) = some r ∧ l' = [.slice A0p p0.length c0p, .slice A1p p1.length c1p, undef, undef, .bool false, .pointer (some ⟨b13, 0, none⟩), .slice A11 u8.2.2.2.2.1.length c11, .slice A12 u8.2.2.2.2.2.length c12, .pointer (some ⟨b20, 0, none⟩), .slice A19 u16.2.2.2.2.1.length c19, .bool u16.2.2.2.2.2, .pointer (some ⟨b27, 0, none⟩), .slice A26 u23.2.2.2.2.1.length c26, .bool u23.2.2.2.2.2, .int .i64 u180, .pointer (some ⟨b196, 0, none⟩), .slice A197 x197.length c197, .bool x198, .pointer (some ⟨b233, 0, none⟩), .slice A234 x234.length c234, .bool x235, undef, undef, undef, undef, undef, undef, undef, undef, undef, undef, undef, undef, .slice A0p p0.length c0p, .slice A1p p1.length c1p, .bool u4, .tuple #[.agg #[.int .i64 u8.1, .slice A9 u8.2.1.length c9, .slice A10 u8.2.2.1.length c10, .int .i64 u8.2.2.2.1], .slice A11 u8.2.2.2.2.1.length c11, .slice A12 u8.2.2.2.2.2.length c12], .slice A0p p0.length c0p, .tuple #[.agg #[.int .i64 u8.1, .slice A9 u8.2.1.length c9, .slice A10 u8.2.2.1.length c10, .int .i64 u8.2.2.2.1], .slice A11 u8.2.2.2.2.1.length c11, .slice A12 u8.2.2.2.2.2.length c12], .agg #[.int .i64 u8.1, .slice A9 u8.2.1.length c9, .slice A10 u8.2.2.1.length c10, .int .i64 u8.2.2.2.1], .slice A11 u8.2.2.2.2.1.length c11, .slice A12 u8.2.2.2.2.2.length c12, .tuple #[.agg #[.int .i64 u16.1, .slice A17 u16.2.1.length c17, .slice A18 u16.2.2.1.length c18, .int .i64 u16.2.2.2.1], .slice A19 u16.2.2.2.2.1.length c19, .bool u16.2.2.2.2.2], .agg #[.int .i64 u8.1, .slice A9 u8.2.1.length c9, .slice A10 u8.2.2.1.length c10, .int .i64 u8.2.2.2.1], .slice A11 u8.2.2.2.2.1.length c11, .slice A12 u8.2.2.2.2.2.length c12, .tuple #[.agg #[.int .i64 u16.1, .slice A17 u16.2.1.length c17, .slice A18 u16.2.2.1.length c18, .int .i64 u16.2.2.2.1], .slice A19 u16.2.2.2.2.1.length c19, .bool u16.2.2.2.2.2], .agg #[.int .i64 u16.1, .slice A17 u16.2.1.length c17, .slice A18 u16.2.2.1.length c18, .int .i64 u16.2.2.2.1], .slice A19 u16.2.2.2.2.1.length c19, .bool u16.2.2.2.2.2, .tuple #[.agg #[.int .i64 u23.1, .slice A24 u23.2.1.length c24, .slice A25 u23.2.2.1.length c25, .int .i64 u23.2.2.2.1], .slice A26 u23.2.2.2.2.1.length c26, .bool u23.2.2.2.2.2], .agg #[.int .i64 u8.1, .slice A9 u8.2.1.length c9, .slice A10 u8.2.2.1.length c10, .int .i64 u8.2.2.2.1], .slice A11 u8.2.2.2.2.1.length c11, .slice A12 u8.2.2.2.2.2.length c12, .tuple #[.agg #[.int .i64 u23.1, .slice A24 u23.2.1.length c24, .slice A25 u23.2.2.1.length c25, .int .i64 u23.2.2.2.1], .slice A26 u23.2.2.2.2.1.length c26, .bool u23.2.2.2.2.2], .agg #[.int .i64 u23.1, .slice A24 u23.2.1.length c24, .slice A25 u23.2.2.1.length c25, .int .i64 u23.2.2.2.1], .slice A26 u23.2.2.2.2.1.length c26, .bool u23.2.2.2.2.2, j58, j59, j60, j61, j62, j63, j64, j65, j66, j67, j68, j69, j70, j71, j72, j73, j74, j75, j76, j77, j78, .bool x58, .bool u16.2.2.2.2.2, .slice A1p p1.length c1p, .int .i64 u179, .slice A11 u8.2.2.2.2.1.length c11, .int .i64 (u8.2.2.2.2.1.length : Int), .int .i64 (IntKind.i64.wrap ((u8.2.2.2.2.1.length : Int) + 1)), .int .i64 u180, j87, j88, j89, j90, j91, j92, j93, j94, j95, j96, j97, j98, getL l' 99, getL l' 100, getL l' 101, getL l' 102, getL l' 103, getL l' 104, getL l' 105, getL l' 106, getL l' 107, getL l' 108, getL l' 109, getL l' 110, undef, undef, undef, undef, undef, undef, undef, undef, undef, undef, undef, undef, undef, undef, undef, undef, undef, undef, undef, undef, undef, undef, undef, undef, undef, undef, undef, undef, undef, undef, undef, undef, undef, undef, undef, undef, undef, undef, undef, undef, undef, undef, undef, undef, undef, undef, undef, undef, undef, undef, undef, undef, undef, undef, undef, undef, undef, undef, undef, undef, undef, undef, undef, undef, undef, undef, undef, undef, undef, undef, undef, undef, undef, undef, undef, undef, undef, undef, undef, undef, undef, undef, undef, undef, undef, undef, undef, undef, undef, undef, undef, undef, undef, undef, undef, undef, undef, undef, undef, undef, undef, undef, undef, undef, undef, undef, undef, undef, undef, undef, undef, undef, undef, undef, undef, undef, undef, undef, undef] ∧ Hp sb s F0 s' [Ck.ol OI 3 A234 c234 x234, Ck.ol OI 3 A237 c237 x237, Ck.ol OI 3 A238 c238 x238, Ck.ol OI 3 A12 c12 u8.2.2.2.2.2, Ck.ol OI 3 A19 c19 u16.2.2.2.2.1, Ck.ol OI 3 A197 c197 x197, Ck.ol OI 3 A9 c9 u8.2.1, Ck.ol OI 3 A10 c10 u8.2.2.1, Ck.ol OI 3 A17 c17 u16.2.1, Ck.ol OI 3 A18 c18 u16.2.2.1, Ck.ov b13 [.int .i64 u8.1, .slice A9 u8.2.1.length c9, .slice A10 u8.2.2.1.length c10, .int .i64 u8.2.2.2.1] 37, Ck.ov b20 [.int .i64 u16.1, .slice A17 u16.2.1.length c17, .slice A18 u16.2.2.1.length c18, .int .i64 u16.2.2.2.1] 37, Ck.ov b233 [.int .i64 x236, .slice A237 x237.length c237, .slice A238 x238.length c238, .int .i64 x239] 37]) ?_ ?_
              · intro K218 hK218
                refine HX_draw hMix ?_
                refine HX_lim (R := fun _ => True) (k := 0) (fun s' => Gro s217 s') 13 ?_
                have hR := Gro.refl s217
                have hH0 := hH
                refine HK_read 0 (v := .agg #[.int .i64 x199, .slice A200 x200.length c200, .slice A201 x201.length c201, .int .i64 x202]) rfl (by kernel_rfl) (fun c l s h => hQp c l s h) rfl (fun s' hR' K hK => ?_) rfl rfl hR ?_
                · refine o_loads' [.int .i64 x199, .slice A200 x200.length c200, .slice A201 x201.length c201, .int .i64 x202] rfl Try.underlying37 rfl tI37 rfl (fun j v hj => has_gro hR' ((hH0.partv 12 rfl (0) [.int .i64 x199, .slice A200 x200.length c200, .slice A201 x201.length c201, .int .i64 x202] rfl) j v hj)) ?_
                  exact hK
                try dsimp only [putL, setL, evL, getL]
                refine HK_readP 1 (v := .slice A11 u8.2.2.2.2.1.length c11) rfl (by kernel_rfl) (fun c l s h => hQp c l s h) rfl (fun s' K hK => ?_) rfl rfl (fun _ => hR) ?_
                · refine o_move ?_
                  exact hK
                try dsimp only [putL, setL, evL, getL]
                refine HK_readP 2 (v := .int .i64 u180) rfl (by kernel_rfl) (fun c l s h => hQp c l s h) rfl (fun s' K hK => ?_) rfl rfl (fun _ => hR) ?_
                · refine o_move ?_
                  exact hK
                try dsimp only [putL, setL, evL, getL]
                replace H := headE H
                obtain ⟨x240, hx240, H⟩ := H
                refine HK_readP 3 (v := .slice (cutA A11 c11 (Int.toNat u180) (Kd.sz KI)) x240.length (c11 - Int.toNat u180)) rfl (by kernel_rfl) (fun c l s h => hQp c l s h) rfl (fun s' K hK => ?_) rfl rfl (fun _ => hR) ?_
                · refine o_cutA (xs := u8.2.2.2.2.1) (kl := .i64) (kh := .i64) (L := u180) (H := (u8.2.2.2.2.1.length : Int)) rfl rfl rfl Try.underlying24 tI3 (hH.rd 3 rfl).1 hx240 ?_
                  exact hK
                have D240 := @Der.cut _ _ OI 3 A11 c11 _ _ _ _ hx240
                try dsimp only [putL, setL, evL, getL]
                refine HK_readP 4 (v := .slice A12 u8.2.2.2.2.2.length c12) rfl (by kernel_rfl) (fun c l s h => hQp c l s h) rfl (fun s' K hK => ?_) rfl rfl (fun _ => hR) ?_
                · refine o_move ?_
                  exact hK
                try dsimp only [putL, setL, evL, getL]
                refine HK_readP 5 (v := .int .i64 u180) rfl (by kernel_rfl) (fun c l s h => hQp c l s h) rfl (fun s' K hK => ?_) rfl rfl (fun _ => hR) ?_
                · refine o_move ?_
                  exact hK
                try dsimp only [putL, setL, evL, getL]
                replace H := headE H
                obtain ⟨x241, hx241, H⟩ := H
                refine HK_readP 6 (v := .slice (cutA A12 c12 (Int.toNat u180) (Kd.sz KI)) x241.length (c12 - Int.toNat u180)) rfl (by kernel_rfl) (fun c l s h => hQp c l s h) rfl (fun s' K hK => ?_) rfl rfl (fun _ => hR) ?_
                · refine o_cutA (xs := u8.2.2.2.2.2) (kl := .i64) (kh := .i64) (L := u180) (H := (u8.2.2.2.2.2.length : Int)) rfl rfl rfl Try.underlying24 tI3 (hH.rd 4 rfl).1 hx241 ?_
                  exact hK
                have D241 := @Der.cut _ _ OI 3 A12 c12 _ _ _ _ hx241
                try dsimp only [putL, setL, evL, getL]
                refine HK_more [7, 12] (by kernel_rfl) rfl (fun _ => hR) ⟨⟨_, rfl, Or.inl ⟨rfl, ?_⟩⟩, ⟨_, rfl, Or.inl ⟨rfl, ?_⟩⟩, trivial⟩
                · replace H := headE H
                  obtain ⟨u242, hu242, H⟩ := H
                  skip
                  refine o_call (args := #[.agg #[.int .i64 x199, .slice A200 x200.length c200, .slice A201 x201.length c201, .int .i64 x202], .slice (cutA A11 c11 (Int.toNat u180) (Kd.sz KI)) x240.length (c11 - Int.toNat u180), .slice (cutA A12 c12 (Int.toNat u180) (Kd.sz KI)) x241.length (c12 - Int.toNat u180)]) Try.func25 rfl rfl rfl (impl_PutBuf.ok s217 s217 no x199 A200 c200 x200 A201 c201 x201 x202 (cutA A11 c11 (Int.toNat u180) (Kd.sz KI)) (c11 - Int.toNat u180) x240 (cutA A12 c12 (Int.toNat u180) (Kd.sz KI)) (c12 - Int.toNat u180) x241 (hH.rd 1 rfl) (hH.rd 2 rfl) (D240 _ _ hH.bs (hH.ckP 3)) (D241 _ _ hH.bs (hH.ckP 4)) (Hp.own (Bs.refl s217)) _ hu242) ?_
                  rintro _ s242 ⟨A243, c243, A244, c244, A245, c245, rfl, hD⟩
                  replace hR := hR.trans hD.gro
                  replace hH := hH.back0T hD
                  clear hD
                  dsimp only [addC, setC, rmC, selC, getC] at hH
                  try dsimp only [putL, setL, evL, getL]
                  refine HK_readP 8 (v := .tuple #[.agg #[.int .i64 u242.1, .slice A243 u242.2.1.length c243, .slice A244 u242.2.2.1.length c244, .int .i64 u242.2.2.2.1], .slice A245 u242.2.2.2.2.1.length c245, .bool u242.2.2.2.2.2]) rfl (by kernel_rfl) (fun c l s h => hQp c l s h) rfl (fun s' K hK => ?_) rfl rfl (fun _ => hR) ?_
                  · refine o_move ?_
                    exact hK
                  try dsimp only [putL, setL, evL, getL]
                  refine HK_readP 9 (v := .agg #[.int .i64 u242.1, .slice A243 u242.2.1.length c243, .slice A244 u242.2.2.1.length c244, .int .i64 u242.2.2.2.1]) rfl (by kernel_rfl) (fun c l s h => hQp c l s h) rfl (fun s' K hK => ?_) rfl rfl (fun _ => hR) ?_
                  · refine o_extract rfl rfl ?_
                    exact hK
                  try dsimp only [putL, setL, evL, getL]
                  refine HK_readP 10 (v := .slice A245 u242.2.2.2.2.1.length c245) rfl (by kernel_rfl) (fun c l s h => hQp c l s h) rfl (fun s' K hK => ?_) rfl rfl (fun _ => hR) ?_
                  · refine o_extract rfl rfl ?_
                    exact hK
                  try dsimp only [putL, setL, evL, getL]
                  refine HK_readP 11 (v := .bool u242.2.2.2.2.2) rfl (by kernel_rfl) (fun c l s h => hQp c l s h) rfl (fun s' K hK => ?_) rfl rfl (fun _ => hR) ?_
                  · refine o_extract rfl rfl ?_
                    exact hK
                  try dsimp only [putL, setL, evL, getL]
                  refine HK_more [12] (by kernel_rfl) rfl (fun _ => hR) ⟨⟨_, rfl, Or.inl ⟨rfl, ?_⟩⟩, trivial⟩
                  skip
                  refine o_allocH hH tI37 ?_
                  intro b246 s246 hH' hG
                  replace hR := hR.trans hG
                  replace hH : Hp sb s F0 s246 [Ck.ol OI 3 A197 c197 x197, Ck.ol OI 3 A200 c200 x200, Ck.ol OI 3 A201 c201 x201, Ck.ol OI 3 A11 c11 u8.2.2.2.2.1, Ck.ol OI 3 A12 c12 u8.2.2.2.2.2, Ck.ol OI 3 A19 c19 u16.2.2.2.2.1, Ck.ol OI 3 A9 c9 u8.2.1, Ck.ol OI 3 A10 c10 u8.2.2.1, Ck.ol OI 3 A17 c17 u16.2.1, Ck.ol OI 3 A18 c18 u16.2.2.1, Ck.ov b13 [.int .i64 u8.1, .slice A9 u8.2.1.length c9, .slice A10 u8.2.2.1.length c10, .int .i64 u8.2.2.2.1] 37, Ck.ov b20 [.int .i64 u16.1, .slice A17 u16.2.1.length c17, .slice A18 u16.2.2.1.length c18, .int .i64 u16.2.2.2.1] 37, Ck.ov b196 [.int .i64 x199, .slice A200 x200.length c200, .slice A201 x201.length c201, .int .i64 x202] 37, Ck.ol OI 3 A243 c243 u242.2.1, Ck.ol OI 3 A244 c244 u242.2.2.1, Ck.ol OI 3 A245 c245 u242.2.2.2.2.1, Ck.ov b246 [.int .i64 0, .slice none 0 0, .slice none 0 0, .int .i64 0] 37] := hH'
                  clear hH' hG
                  try dsimp only [putL, setL, evL, getL]
                  refine HK_more [13] (by kernel_rfl) rfl (fun _ => hR) ⟨⟨_, rfl, Or.inl ⟨rfl, ?_⟩⟩, trivial⟩
                  skip
                  refine o_stvH (vs := [.int .i64 u242.1, .slice A243 u242.2.1.length c243, .slice A244 u242.2.2.1.length c244, .int .i64 u242.2.2.2.1]) (us' := [.int .i64 u242.1, .slice A243 u242.2.1.length c243, .slice A244 u242.2.2.1.length c244, .int .i64 u242.2.2.2.1]) hH 16 rfl rfl rfl rfl rfl tI37 rfl (List.cons_ne_nil _ _) rfl rfl rfl ?_
                  intro s247 hH'
                  replace hH : Hp sb s F0 s247 [Ck.ol OI 3 A197 c197 x197, Ck.ol OI 3 A200 c200 x200, Ck.ol OI 3 A201 c201 x201, Ck.ol OI 3 A11 c11 u8.2.2.2.2.1, Ck.ol OI 3 A12 c12 u8.2.2.2.2.2, Ck.ol OI 3 A19 c19 u16.2.2.2.2.1, Ck.ol OI 3 A9 c9 u8.2.1, Ck.ol OI 3 A10 c10 u8.2.2.1, Ck.ol OI 3 A17 c17 u16.2.1, Ck.ol OI 3 A18 c18 u16.2.2.1, Ck.ov b13 [.int .i64 u8.1, .slice A9 u8.2.1.length c9, .slice A10 u8.2.2.1.length c10, .int .i64 u8.2.2.2.1] 37, Ck.ov b20 [.int .i64 u16.1, .slice A17 u16.2.1.length c17, .slice A18 u16.2.2.1.length c18, .int .i64 u16.2.2.2.1] 37, Ck.ov b196 [.int .i64 x199, .slice A200 x200.length c200, .slice A201 x201.length c201, .int .i64 x202] 37, Ck.ol OI 3 A243 c243 u242.2.1, Ck.ol OI 3 A244 c244 u242.2.2.1, Ck.ol OI 3 A245 c245 u242.2.2.2.2.1, Ck.ov b246 [.int .i64 u242.1, .slice A243 u242.2.1.length c243, .slice A244 u242.2.2.1.length c244, .int .i64 u242.2.2.2.1] 37] := hH'
                  clear hH'
                  try dsimp only [putL, setL, evL, getL]
                  refine HK_free (by kernel_rfl) ?_
                  refine HX_lim (R := fun _ => True) (k := 0) (fun s' => Gro s247 s') 17 ?_
                  have hR := Gro.refl s247
                  have hH0 := hH
                  refine HK_more [14] (by kernel_rfl) rfl (fun _ => hR) ⟨⟨_, rfl, Or.inl ⟨rfl, ?_⟩⟩, trivial⟩
                  skip
                  refine o_assign ?_
                  try dsimp only [putL, setL, evL, getL]
                  refine HK_more [15] (by kernel_rfl) rfl (fun _ => hR) ⟨⟨_, rfl, Or.inl ⟨rfl, ?_⟩⟩, trivial⟩
                  skip
                  refine o_assign ?_
                  try dsimp only [putL, setL, evL, getL]
                  refine HK_done (fun _ => hR) (by kernel_rfl) ?_
                  exact hK218 _ _ ⟨b246, u242.2.2.2.2.1, A245, c245, u242.2.2.2.2.2, u242.1, u242.2.1, A243, c243, u242.2.2.1, A244, c244, u242.2.2.2.1, H, rfl, hH.sel [15, 13, 14, 4, 5, 0, 6, 7, 8, 9, 10, 11, 16] (by decide)⟩
                · skip
                  refine o_allocH hH tI37 ?_
                  intro b248 s248 hH' hG
                  replace hR := hR.trans hG
                  replace hH : Hp sb s F0 s248 [Ck.ol OI 3 A197 c197 x197, Ck.ol OI 3 A200 c200 x200, Ck.ol OI 3 A201 c201 x201, Ck.ol OI 3 A11 c11 u8.2.2.2.2.1, Ck.ol OI 3 A12 c12 u8.2.2.2.2.2, Ck.ol OI 3 A19 c19 u16.2.2.2.2.1, Ck.ol OI 3 A9 c9 u8.2.1, Ck.ol OI 3 A10 c10 u8.2.2.1, Ck.ol OI 3 A17 c17 u16.2.1, Ck.ol OI 3 A18 c18 u16.2.2.1, Ck.ov b13 [.int .i64 u8.1, .slice A9 u8.2.1.length c9, .slice A10 u8.2.2.1.length c10, .int .i64 u8.2.2.2.1] 37, Ck.ov b20 [.int .i64 u16.1, .slice A17 u16.2.1.length c17, .slice A18 u16.2.2.1.length c18, .int .i64 u16.2.2.2.1] 37, Ck.ov b196 [.int .i64 x199, .slice A200 x200.length c200, .slice A201 x201.length c201, .int .i64 x202] 37, Ck.ov b248 [.int .i64 0, .slice none 0 0, .slice none 0 0, .int .i64 0] 37] := hH'
                  clear hH' hG
                  try dsimp only [putL, setL, evL, getL]
                  refine HK_more [7] (by kernel_rfl) rfl (fun _ => hR) ⟨⟨_, rfl, Or.inl ⟨rfl, ?_⟩⟩, trivial⟩
                  replace H := headE H
                  obtain ⟨u249, hu249, H⟩ := H
                  skip
                  refine o_call (args := #[.agg #[.int .i64 x199, .slice A200 x200.length c200, .slice A201 x201.length c201, .int .i64 x202], .slice (cutA A11 c11 (Int.toNat u180) (Kd.sz KI)) x240.length (c11 - Int.toNat u180), .slice (cutA A12 c12 (Int.toNat u180) (Kd.sz KI)) x241.length (c12 - Int.toNat u180)]) Try.func25 rfl rfl rfl (impl_PutBuf.ok s248 s248 no x199 A200 c200 x200 A201 c201 x201 x202 (cutA A11 c11 (Int.toNat u180) (Kd.sz KI)) (c11 - Int.toNat u180) x240 (cutA A12 c12 (Int.toNat u180) (Kd.sz KI)) (c12 - Int.toNat u180) x241 (hH.rd 1 rfl) (hH.rd 2 rfl) (D240 _ _ hH.bs (hH.ckP 3)) (D241 _ _ hH.bs (hH.ckP 4)) (Hp.own (Bs.refl s248)) _ hu249) ?_
                  rintro _ s249 ⟨A250, c250, A251, c251, A252, c252, rfl, hD⟩
                  replace hR := hR.trans hD.gro
                  replace hH := hH.back0T hD
                  clear hD
                  dsimp only [addC, setC, rmC, selC, getC] at hH
                  try dsimp only [putL, setL, evL, getL]
                  refine HK_readP 8 (v := .tuple #[.agg #[.int .i64 u249.1, .slice A250 u249.2.1.length c250, .slice A251 u249.2.2.1.length c251, .int .i64 u249.2.2.2.1], .slice A252 u249.2.2.2.2.1.length c252, .bool u249.2.2.2.2.2]) rfl (by kernel_rfl) (fun c l s h => hQp c l s h) rfl (fun s' K hK => ?_) rfl rfl (fun _ => hR) ?_
                  · refine o_move ?_
                    exact hK
                  try dsimp only [putL, setL, evL, getL]
                  refine HK_readP 9 (v := .agg #[.int .i64 u249.1, .slice A250 u249.2.1.length c250, .slice A251 u249.2.2.1.length c251, .int .i64 u249.2.2.2.1]) rfl (by kernel_rfl) (fun c l s h => hQp c l s h) rfl (fun s' K hK => ?_) rfl rfl (fun _ => hR) ?_
                  · refine o_extract rfl rfl ?_
                    exact hK
                  try dsimp only [putL, setL, evL, getL]
                  refine HK_readP 10 (v := .slice A252 u249.2.2.2.2.1.length c252) rfl (by kernel_rfl) (fun c l s h => hQp c l s h) rfl (fun s' K hK => ?_) rfl rfl (fun _ => hR) ?_
                  · refine o_extract rfl rfl ?_
                    exact hK
                  try dsimp only [putL, setL, evL, getL]
                  refine HK_readP 11 (v := .bool u249.2.2.2.2.2) rfl (by kernel_rfl) (fun c l s h => hQp c l s h) rfl (fun s' K hK => ?_) rfl rfl (fun _ => hR) ?_
                  · refine o_extract rfl rfl ?_
                    exact hK
                  try dsimp only [putL, setL, evL, getL]
                  refine HK_more [13] (by kernel_rfl) rfl (fun _ => hR) ⟨⟨_, rfl, Or.inl ⟨rfl, ?_⟩⟩, trivial⟩
                  skip
                  refine o_stvH (vs := [.int .i64 u249.1, .slice A250 u249.2.1.length c250, .slice A251 u249.2.2.1.length c251, .int .i64 u249.2.2.2.1]) (us' := [.int .i64 u249.1, .slice A250 u249.2.1.length c250, .slice A251 u249.2.2.1.length c251, .int .i64 u249.2.2.2.1]) hH 13 rfl rfl rfl rfl rfl tI37 rfl (List.cons_ne_nil _ _) rfl rfl rfl ?_
                  intro s253 hH'
                  replace hH : Hp sb s F0 s253 [Ck.ol OI 3 A197 c197 x197, Ck.ol OI 3 A200 c200 x200, Ck.ol OI 3 A201 c201 x201, Ck.ol OI 3 A11 c11 u8.2.2.2.2.1, Ck.ol OI 3 A12 c12 u8.2.2.2.2.2, Ck.ol OI 3 A19 c19 u16.2.2.2.2.1, Ck.ol OI 3 A9 c9 u8.2.1, Ck.ol OI 3 A10 c10 u8.2.2.1, Ck.ol OI 3 A17 c17 u16.2.1, Ck.ol OI 3 A18 c18 u16.2.2.1, Ck.ov b13 [.int .i64 u8.1, .slice A9 u8.2.1.length c9, .slice A10 u8.2.2.1.length c10, .int .i64 u8.2.2.2.1] 37, Ck.ov b20 [.int .i64 u16.1, .slice A17 u16.2.1.length c17, .slice A18 u16.2.2.1.length c18, .int .i64 u16.2.2.2.1] 37, Ck.ov b196 [.int .i64 x199, .slice A200 x200.length c200, .slice A201 x201.length c201, .int .i64 x202] 37, Ck.ov b248 [.int .i64 u249.1, .slice A250 u249.2.1.length c250, .slice A251 u249.2.2.1.length c251, .int .i64 u249.2.2.2.1] 37, Ck.ol OI 3 A250 c250 u249.2.1, Ck.ol OI 3 A251 c251 u249.2.2.1, Ck.ol OI 3 A252 c252 u249.2.2.2.2.1] := hH'
                  clear hH'
                  try dsimp only [putL, setL, evL, getL]
                  refine HK_free (by kernel_rfl) ?_
                  refine HX_lim (R := fun _ => True) (k := 0) (fun s' => Gro s253 s') 17 ?_
                  have hR := Gro.refl s253
                  have hH0 := hH
                  refine HK_more [14] (by kernel_rfl) rfl (fun _ => hR) ⟨⟨_, rfl, Or.inl ⟨rfl, ?_⟩⟩, trivial⟩
                  skip
                  refine o_assign ?_
                  try dsimp only [putL, setL, evL, getL]
                  refine HK_more [15] (by kernel_rfl) rfl (fun _ => hR) ⟨⟨_, rfl, Or.inl ⟨rfl, ?_⟩⟩, trivial⟩
                  skip
                  refine o_assign ?_
                  try dsimp only [putL, setL, evL, getL]
                  refine HK_done (fun _ => hR) (by kernel_rfl) ?_
                  exact hK218 _ _ ⟨b248, u249.2.2.2.2.1, A252, c252, u249.2.2.2.2.2, u249.1, u249.2.1, A250, c250, u249.2.2.1, A251, c251, u249.2.2.2.1, H, rfl, hH.sel [16, 14, 15, 4, 5, 0, 6, 7, 8, 9, 10, 11, 13] (by decide)⟩
              · rintro l' s254 ⟨b233, x234, A234, c234, x235, x236, x237, A237, c237, x238, A238, c238, x239, H, hl, hH⟩
                generalize getL l' 99 = j99, getL l' 100 = j100, getL l' 101 = j101, getL l' 102 = j102, getL l' 103 = j103, getL l' 104 = j104, getL l' 105 = j105, getL l' 106 = j106, getL l' 107 = j107, getL l' 108 = j108, getL l' 109 = j109, getL l' 110 = j110 at hl
                subst hl
                replace H := hG218 _ H
                try dsimp only at H
                refine joinH H fun G255 hG255 H => ?_
                refine HT_joinK (fun l' s' => ∃ (x267 : Bool), G255 x267 = some r ∧ l' = [.slice A0p p0.length c0p, .slice A1p p1.length c1p, undef, undef, .bool false, .pointer (some ⟨b13, 0, none⟩), .slice A11 u8.2.2.2.2.1.length c11, .slice A12 u8.2.2.2.2.2.length c12, .pointer (some ⟨b20, 0, none⟩), .slice A19 u16.2.2.2.2.1.length c19, .bool u16.2.2.2.2.2, .pointer (some ⟨b27, 0, none⟩), .slice A26 u23.2.2.2.2.1.length c26, .bool u23.2.2.2.2.2, .int .i64 u180, .pointer (some ⟨b196, 0, none⟩), .slice A197 x197.length c197, .bool x198, .pointer (some ⟨b233, 0, none⟩), .slice A234 x234.length c234, .bool x235, undef, undef, undef, undef, undef, undef, undef, undef, undef, undef, undef, undef, .slice A0p p0.length c0p, .slice A1p p1.length c1p, .bool u4, .tuple #[.agg #[.int .i64 u8.1, .slice A9 u8.2.1.length c9, .slice A10 u8.2.2.1.length c10, .int .i64 u8.2.2.2.1], .slice A11 u8.2.2.2.2.1.length c11, .slice A12 u8.2.2.2.2.2.length c12], .slice A0p p0.length c0p, .tuple #[.agg #[.int .i64 u8.1, .slice A9 u8.2.1.length c9, .slice A10 u8.2.2.1.length c10, .int .i64 u8.2.2.2.1], .slice A11 u8.2.2.2.2.1.length c11, .slice A12 u8.2.2.2.2.2.length c12], .agg #[.int .i64 u8.1, .slice A9 u8.2.1.length c9, .slice A10 u8.2.2.1.length c10, .int .i64 u8.2.2.2.1], .slice A11 u8.2.2.2.2.1.length c11, .slice A12 u8.2.2.2.2.2.length c12, .tuple #[.agg #[.int .i64 u16.1, .slice A17 u16.2.1.length c17, .slice A18 u16.2.2.1.length c18, .int .i64 u16.2.2.2.1], .slice A19 u16.2.2.2.2.1.length c19, .bool u16.2.2.2.2.2], .agg #[.int .i64 u8.1, .slice A9 u8.2.1.length c9, .slice A10 u8.2.2.1.length c10, .int .i64 u8.2.2.2.1], .slice A11 u8.2.2.2.2.1.length c11, .slice A12 u8.2.2.2.2.2.length c12, .tuple #[.agg #[.int .i64 u16.1, .slice A17 u16.2.1.length c17, .slice A18 u16.2.2.1.length c18, .int .i64 u16.2.2.2.1], .slice A19 u16.2.2.2.2.1.length c19, .bool u16.2.2.2.2.2], .agg #[.int .i64 u16.1, .slice A17 u16.2.1.length c17, .slice A18 u16.2.2.1.length c18, .int .i64 u16.2.2.2.1], .slice A19 u16.2.2.2.2.1.length c19, .bool u16.2.2.2.2.2, .tuple #[.agg #[.int .i64 u23.1, .slice A24 u23.2.1.length c24, .slice A25 u23.2.2.1.length c25, .int .i64 u23.2.2.2.1], .slice A26 u23.2.2.2.2.1.length c26, .bool u23.2.2.2.2.2], .agg #[.int .i64 u8.1, .slice A9 u8.2.1.length c9, .slice A10 u8.2.2.1.length c10, .int .i64 u8.2.2.2.1], .slice A11 u8.2.2.2.2.1.length c11, .slice A12 u8.2.2.2.2.2.length c12, .tuple #[.agg #[.int .i64 u23.1, .slice A24 u23.2.1.length c24, .slice A25 u23.2.2.1.length c25, .int .i64 u23.2.2.2.1], .slice A26 u23.2.2.2.2.1.length c26, .bool u23.2.2.2.2.2], .agg #[.int .i64 u23.1, .slice A24 u23.2.1.length c24, .slice A25 u23.2.2.1.length c25, .int .i64 u23.2.2.2.1], .slice A26 u23.2.2.2.2.1.length c26, .bool u23.2.2.2.2.2, j58, j59, j60, j61, j62, j63, j64, j65, j66, j67, j68, j69, j70, j71, j72, j73, j74, j75, j76, j77, j78, .bool x58, .bool u16.2.2.2.2.2, .slice A1p p1.length c1p, .int .i64 u179, .slice A11 u8.2.2.2.2.1.length c11, .int .i64 (u8.2.2.2.2.1.length : Int), .int .i64 (IntKind.i64.wrap ((u8.2.2.2.2.1.length : Int) + 1)), .int .i64 u180, j87, j88, j89, j90, j91, j92, j93, j94, j95, j96, j97, j98, j99, j100, j101, j102, j103, j104, j105, j106, j107, j108, j109, j110, getL l' 111, getL l' 112, getL l' 113, getL l' 114, getL l' 115, getL l' 116, getL l' 117, getL l' 118, getL l' 119, getL l' 120, getL l' 121, getL l' 122, getL l' 123, getL l' 124, getL l' 125, getL l' 126, getL l' 127, getL l' 128, getL l' 129, getL l' 130, getL l' 131, getL l' 132, getL l' 133, getL l' 134, getL l' 135, getL l' 136, getL l' 137, getL l' 138, getL l' 139, getL l' 140, getL l' 141, getL l' 142, getL l' 143, getL l' 144, getL l' 145, getL l' 146, getL l' 147, getL l' 148, getL l' 149, getL l' 150, getL l' 151, getL l' 152, getL l' 153, getL l' 154, getL l' 155, .bool x267, undef, undef, undef, undef, undef, undef, undef, undef, undef, undef, undef, undef, undef, undef, undef, undef, undef, undef, undef, undef, undef, undef, undef, undef, undef, undef, undef, undef, undef, undef, undef, undef, undef, undef, undef, undef, undef, undef, undef, undef, undef, undef, undef, undef, undef, undef, undef, undef, undef, undef, undef, undef, undef, undef, undef, undef, undef, undef, undef, undef, undef, undef, undef, undef, undef, undef, undef, undef, undef, undef, undef, undef, undef] ∧ Hp sb s F0 s' []) ?_ ?_
                · intro K255 hK255
                  refine HX_draw hMix ?_
                  refine HX_lim (R := fun _ => True) (k := 0) (fun s' => Gro s254 s') 15 ?_
                  have hR := Gro.refl s254
                  have hH0 := hH
                  refine HK_readP 0 (v := .bool x198) rfl (by kernel_rfl) (fun c l s h => hQp c l s h) rfl (fun s' K hK => ?_) rfl rfl (fun _ => hR) ?_
                  · refine o_move ?_
                    exact hK
                  try dsimp only [putL, setL, evL, getL]
                  refine HK_readP 1 (v := .bool (!x198)) rfl (by kernel_rfl) (fun c l s h => hQp c l s h) rfl (fun s' K hK => ?_) rfl rfl (fun _ => hR) ?_
                  · refine o_not rfl ?_
                    exact hK
                  try dsimp only [putL, setL, evL, getL]
                  refine HK_readP 2 (v := .bool (!x198)) rfl (by kernel_rfl) (fun c l s h => hQp c l s h) rfl (fun s' K hK => ?_) rfl rfl (fun _ => hR) ?_
                  · refine o_move ?_
                    exact hK
                  try dsimp only [putL, setL, evL, getL]
                  rcases Bool.eq_false_or_eq_true (!x198) with hb268 | hb268
                  · replace H := iteT hb268 H
                    refine HK_passP 3 rfl (by kernel_rfl) (fun c l s h => hQp c l s h) ?_ (fun _ => hR) ?_
                    · exact wantF (j := 2) (b := false) (t := 113) (c := !x198) rfl rfl rfl rfl hb268
                    try dsimp only [putL, setL, evL, getL]
                    refine HK_passP 4 rfl (by kernel_rfl) (fun c l s h => hQp c l s h) ?_ (fun _ => hR) ?_
                    · exact wantF (j := 2) (b := false) (t := 113) (c := !x198) rfl rfl rfl rfl hb268
                    try dsimp only [putL, setL, evL, getL]
                    refine HK_readP 5 (v := .bool true) rfl (by kernel_rfl) (fun c l s h => hQp c l s h) rfl (fun s' K hK => ?_) rfl rfl (fun _ => hR) ?_
                    · refine o_pickT rfl hb268 ?_
                      exact hK
                    try dsimp only [putL, setL, evL, getL]
                    refine HK_readP 6 (v := .bool true) rfl (by kernel_rfl) (fun c l s h => hQp c l s h) rfl (fun s' K hK => ?_) rfl rfl (fun _ => hR) ?_
                    · refine o_move ?_
                      exact hK
                    try dsimp only [putL, setL, evL, getL]
                    refine HK_passP 7 rfl (by kernel_rfl) (fun c l s h => hQp c l s h) ?_ (fun _ => hR) ?_
                    · exact wantF (j := 6) (b := false) (t := 117) (c := true) rfl rfl rfl rfl rfl
                    try dsimp only [putL, setL, evL, getL]
                    refine HK_passP 8 rfl (by kernel_rfl) (fun c l s h => hQp c l s h) ?_ (fun _ => hR) ?_
                    · exact wantF (j := 6) (b := false) (t := 117) (c := true) rfl rfl rfl rfl rfl
                    try dsimp only [putL, setL, evL, getL]
                    refine HK_passP 9 rfl (by kernel_rfl) (fun c l s h => hQp c l s h) ?_ (fun _ => hR) ?_
                    · exact wantF (j := 6) (b := false) (t := 117) (c := true) rfl rfl rfl rfl rfl
                    try dsimp only [putL, setL, evL, getL]
                    refine HK_passP 10 rfl (by kernel_rfl) (fun c l s h => hQp c l s h) ?_ (fun _ => hR) ?_
                    · exact wantF (j := 6) (b := false) (t := 117) (c := true) rfl rfl rfl rfl rfl
                    try dsimp only [putL, setL, evL, getL]
                    refine HK_readP 11 (v := .bool true) rfl (by kernel_rfl) (fun c l s h => hQp c l s h) rfl (fun s' K hK => ?_) rfl rfl (fun _ => hR) ?_
                    · refine o_pickT rfl rfl ?_
                      exact hK
                    try dsimp only [putL, setL, evL, getL]
                    refine HK_readP 12 (v := .bool true) rfl (by kernel_rfl) (fun c l s h => hQp c l s h) rfl (fun s' K hK => ?_) rfl rfl (fun _ => hR) ?_
                    · refine o_move ?_
                      exact hK
                    try dsimp only [putL, setL, evL, getL]
                    refine HK_passP 13 rfl (by kernel_rfl) (fun c l s h => hQp c l s h) ?_ (fun _ => hR) ?_
                    · exact wantF (j := 12) (b := false) (t := 123) (c := true) rfl rfl rfl rfl rfl
                    try dsimp only [putL, setL, evL, getL]
                    refine HK_passP 14 rfl (by kernel_rfl) (fun c l s h => hQp c l s h) ?_ (fun _ => hR) ?_
                    · exact wantF (j := 12) (b := false) (t := 123) (c := true) rfl rfl rfl rfl rfl
                    try dsimp only [putL, setL, evL, getL]
                    refine HK_passP 16 rfl (by kernel_rfl) (fun c l s h => hQp c l s h) ?_ (fun _ => hR) ?_
                    · exact wantF (j := 12) (b := false) (t := 123) (c := true) rfl rfl rfl rfl rfl
                    try dsimp only [putL, setL, evL, getL]
                    refine HK_more [15] (by kernel_rfl) rfl (fun _ => hR) ⟨⟨_, rfl, Or.inr ⟨wantF (j := 12) (b := false) (t := 123) (c := true) rfl rfl rfl rfl rfl, ?_⟩⟩, trivial⟩
                    try dsimp only [putL, setL, evL, getL]
                    refine HK_free (by kernel_rfl) ?_
                    refine HX_passP 17 rfl (by kernel_rfl) (fun c l s h => hQp c l s h) ?_ ?_
                    · exact wantF (j := 12) (b := false) (t := 123) (c := true) rfl rfl rfl rfl rfl
                    try dsimp only [putL, setL, evL, getL]
                    refine HX_passP 18 rfl (by kernel_rfl) (fun c l s h => hQp c l s h) ?_ ?_
                    · exact wantF (j := 12) (b := false) (t := 123) (c := true) rfl rfl rfl rfl rfl
                    try dsimp only [putL, setL, evL, getL]
                    refine HX_lim (R := fun _ => True) (k := 0) (fun s' => Gro s254 s') 47 ?_
                    have hR := Gro.refl s254
                    have hH0 := hH
                    refine HK_readP 19 (v := .bool true) rfl (by kernel_rfl) (fun c l s h => hQp c l s h) rfl (fun s' K hK => ?_) rfl rfl (fun _ => hR) ?_
                    · refine o_pickT rfl rfl ?_
                      exact hK
                    try dsimp only [putL, setL, evL, getL]
                    refine HK_readP 20 (v := .bool true) rfl (by kernel_rfl) (fun c l s h => hQp c l s h) rfl (fun s' K hK => ?_) rfl rfl (fun _ => hR) ?_
                    · refine o_move ?_
                      exact hK
                    try dsimp only [putL, setL, evL, getL]
                    refine HK_passP 21 rfl (by kernel_rfl) (fun c l s h => hQp c l s h) ?_ (fun _ => hR) ?_
                    · exact wantF (j := 20) (b := false) (t := 131) (c := true) rfl rfl rfl rfl rfl
                    try dsimp only [putL, setL, evL, getL]
                    refine HK_passP 22 rfl (by kernel_rfl) (fun c l s h => hQp c l s h) ?_ (fun _ => hR) ?_
                    · exact wantF (j := 20) (b := false) (t := 131) (c := true) rfl rfl rfl rfl rfl
                    try dsimp only [putL, setL, evL, getL]
                    refine HK_passP 23 rfl (by kernel_rfl) (fun c l s h => hQp c l s h) ?_ (fun _ => hR) ?_
                    · exact wantF (j := 20) (b := false) (t := 131) (c := true) rfl rfl rfl rfl rfl
                    try dsimp only [putL, setL, evL, getL]
                    refine HK_passP 24 rfl (by kernel_rfl) (fun c l s h => hQp c l s h) ?_ (fun _ => hR) ?_
                    · exact wantF (j := 20) (b := false) (t := 131) (c := true) rfl rfl rfl rfl rfl
                    try dsimp only [putL, setL, evL, getL]
                    refine HK_passP 25 rfl (by kernel_rfl) (fun c l s h => hQp c l s h) ?_ (fun _ => hR) ?_
                    · exact wantF (j := 20) (b := false) (t := 131) (c := true) rfl rfl rfl rfl rfl
                    try dsimp only [putL, setL, evL, getL]
                    refine HK_passP 26 rfl (by kernel_rfl) (fun c l s h => hQp c l s h) ?_ (fun _ => hR) ?_
                    · exact wantF (j := 20) (b := false) (t := 131) (c := true) rfl rfl rfl rfl rfl
                    try dsimp only [putL, setL, evL, getL]
                    refine HK_passP 27 rfl (by kernel_rfl) (fun c l s h => hQp c l s h) ?_ (fun _ => hR) ?_
                    · exact wantF (j := 20) (b := false) (t := 131) (c := true) rfl rfl rfl rfl rfl
                    try dsimp only [putL, setL, evL, getL]
                    refine HK_passP 28 rfl (by kernel_rfl) (fun c l s h => hQp c l s h) ?_ (fun _ => hR) ?_
                    · exact wantF (j := 20) (b := false) (t := 131) (c := true) rfl rfl rfl rfl rfl
                    try dsimp only [putL, setL, evL, getL]
                    refine HK_passP 29 rfl (by kernel_rfl) (fun c l s h => hQp c l s h) ?_ (fun _ => hR) ?_
                    · exact wantF (j := 20) (b := false) (t := 131) (c := true) rfl rfl rfl rfl rfl
                    try dsimp only [putL, setL, evL, getL]
                    refine HK_passP 30 rfl (by kernel_rfl) (fun c l s h => hQp c l s h) ?_ (fun _ => hR) ?_
                    · exact wantF (j := 20) (b := false) (t := 131) (c := true) rfl rfl rfl rfl rfl
                    try dsimp only [putL, setL, evL, getL]
                    refine HK_passP 31 rfl (by kernel_rfl) (fun c l s h => hQp c l s h) ?_ (fun _ => hR) ?_
                    · exact wantF (j := 20) (b := false) (t := 131) (c := true) rfl rfl rfl rfl rfl
                    try dsimp only [putL, setL, evL, getL]
                    refine HK_passP 32 rfl (by kernel_rfl) (fun c l s h => hQp c l s h) ?_ (fun _ => hR) ?_
                    · exact wantF (j := 20) (b := false) (t := 131) (c := true) rfl rfl rfl rfl rfl
                    try dsimp only [putL, setL, evL, getL]
                    refine HK_passP 33 rfl (by kernel_rfl) (fun c l s h => hQp c l s h) ?_ (fun _ => hR) ?_
                    · exact wantF (j := 20) (b := false) (t := 131) (c := true) rfl rfl rfl rfl rfl
                    try dsimp only [putL, setL, evL, getL]
                    refine HK_passP 34 rfl (by kernel_rfl) (fun c l s h => hQp c l s h) ?_ (fun _ => hR) ?_
                    · exact wantF (j := 20) (b := false) (t := 131) (c := true) rfl rfl rfl rfl rfl
                    try dsimp only [putL, setL, evL, getL]
                    refine HK_passP 35 rfl (by kernel_rfl) (fun c l s h => hQp c l s h) ?_ (fun _ => hR) ?_
                    · exact wantF (j := 20) (b := false) (t := 131) (c := true) rfl rfl rfl rfl rfl
                    try dsimp only [putL, setL, evL, getL]
                    refine HK_passP 36 rfl (by kernel_rfl) (fun c l s h => hQp c l s h) ?_ (fun _ => hR) ?_
                    · exact wantF (j := 20) (b := false) (t := 131) (c := true) rfl rfl rfl rfl rfl
                    try dsimp only [putL, setL, evL, getL]
                    refine HK_readP 37 (v := .bool true) rfl (by kernel_rfl) (fun c l s h => hQp c l s h) rfl (fun s' K hK => ?_) rfl rfl (fun _ => hR) ?_
                    · refine o_pickT rfl rfl ?_
                      exact hK
                    try dsimp only [putL, setL, evL, getL]
                    refine HK_readP 38 (v := .bool true) rfl (by kernel_rfl) (fun c l s h => hQp c l s h) rfl (fun s' K hK => ?_) rfl rfl (fun _ => hR) ?_
                    · refine o_move ?_
                      exact hK
                    try dsimp only [putL, setL, evL, getL]
                    refine HK_passP 39 rfl (by kernel_rfl) (fun c l s h => hQp c l s h) ?_ (fun _ => hR) ?_
                    · exact wantF (j := 38) (b := false) (t := 149) (c := true) rfl rfl rfl rfl rfl
                    try dsimp only [putL, setL, evL, getL]
                    refine HK_passP 40 rfl (by kernel_rfl) (fun c l s h => hQp c l s h) ?_ (fun _ => hR) ?_
                    · exact wantF (j := 38) (b := false) (t := 149) (c := true) rfl rfl rfl rfl rfl
                    try dsimp only [putL, setL, evL, getL]
                    refine HK_passP 41 rfl (by kernel_rfl) (fun c l s h => hQp c l s h) ?_ (fun _ => hR) ?_
                    · exact wantF (j := 38) (b := false) (t := 149) (c := true) rfl rfl rfl rfl rfl
                    try dsimp only [putL, setL, evL, getL]
                    refine HK_passP 42 rfl (by kernel_rfl) (fun c l s h => hQp c l s h) ?_ (fun _ => hR) ?_
                    · exact wantF (j := 38) (b := false) (t := 149) (c := true) rfl rfl rfl rfl rfl
                    try dsimp only [putL, setL, evL, getL]
                    refine HK_passP 43 rfl (by kernel_rfl) (fun c l s h => hQp c l s h) ?_ (fun _ => hR) ?_
                    · exact wantF (j := 38) (b := false) (t := 149) (c := true) rfl rfl rfl rfl rfl
                    try dsimp only [putL, setL, evL, getL]
                    refine HK_passP 44 rfl (by kernel_rfl) (fun c l s h => hQp c l s h) ?_ (fun _ => hR) ?_
                    · exact wantF (j := 38) (b := false) (t := 149) (c := true) rfl rfl rfl rfl rfl
                    try dsimp only [putL, setL, evL, getL]
                    refine HK_readP 45 (v := .bool true) rfl (by kernel_rfl) (fun c l s h => hQp c l s h) rfl (fun s' K hK => ?_) rfl rfl (fun _ => hR) ?_
                    · refine o_pickT rfl rfl ?_
                      exact hK
                    try dsimp only [putL, setL, evL, getL]
                    refine HK_done (fun _ => hR) (by kernel_rfl) ?_
                    exact hK255 _ _ ⟨true, H, rfl, hH.sel [] (by decide)⟩
                  · replace H := iteF hb268 H
                    refine HK_readP 3 (v := .bool x235) rfl (by kernel_rfl) (fun c l s h => hQp c l s h) (wantT (j := 2) (b := false) (t := 113) (c := !x198) rfl rfl rfl rfl hb268) (fun s' K hK => ?_) rfl rfl (fun _ => hR) ?_
                    · refine o_move ?_
                      exact hK
                    try dsimp only [putL, setL, evL, getL]
                    refine HK_readP 4 (v := .bool (!x235)) rfl (by kernel_rfl) (fun c l s h => hQp c l s h) (wantT (j := 2) (b := false) (t := 113) (c := !x198) rfl rfl rfl rfl hb268) (fun s' K hK => ?_) rfl rfl (fun _ => hR) ?_
                    · refine o_not rfl ?_
                      exact hK
                    try dsimp only [putL, setL, evL, getL]
                    refine HK_readP 5 (v := .bool (!x235)) rfl (by kernel_rfl) (fun c l s h => hQp c l s h) rfl (fun s' K hK => ?_) rfl rfl (fun _ => hR) ?_
                    · refine o_pickF rfl hb268 ?_
                      exact hK
                    try dsimp only [putL, setL, evL, getL]
                    refine HK_readP 6 (v := .bool (!x235)) rfl (by kernel_rfl) (fun c l s h => hQp c l s h) rfl (fun s' K hK => ?_) rfl rfl (fun _ => hR) ?_
                    · refine o_move ?_
                      exact hK
                    try dsimp only [putL, setL, evL, getL]
                    rcases Bool.eq_false_or_eq_true (!x235) with hb269 | hb269
                    · replace H := iteT hb269 H
                      refine HK_passP 7 rfl (by kernel_rfl) (fun c l s h => hQp c l s h) ?_ (fun _ => hR) ?_
                      · exact wantF (j := 6) (b := false) (t := 117) (c := !x235) rfl rfl rfl rfl hb269
                      try dsimp only [putL, setL, evL, getL]
                      refine HK_passP 8 rfl (by kernel_rfl) (fun c l s h => hQp c l s h) ?_ (fun _ => hR) ?_
                      · exact wantF (j := 6) (b := false) (t := 117) (c := !x235) rfl rfl rfl rfl hb269
                      try dsimp only [putL, setL, evL, getL]
                      refine HK_passP 9 rfl (by kernel_rfl) (fun c l s h => hQp c l s h) ?_ (fun _ => hR) ?_
                      · exact wantF (j := 6) (b := false) (t := 117) (c := !x235) rfl rfl rfl rfl hb269
                      try dsimp only [putL, setL, evL, getL]
                      refine HK_passP 10 rfl (by kernel_rfl) (fun c l s h => hQp c l s h) ?_ (fun _ => hR) ?_
                      · exact wantF (j := 6) (b := false) (t := 117) (c := !x235) rfl rfl rfl rfl hb269
                      try dsimp only [putL, setL, evL, getL]
                      refine HK_readP 11 (v := .bool true) rfl (by kernel_rfl) (fun c l s h => hQp c l s h) rfl (fun s' K hK => ?_) rfl rfl (fun _ => hR) ?_
                      · refine o_pickT rfl hb269 ?_
                        exact hK
                      try dsimp only [putL, setL, evL, getL]
                      refine HK_readP 12 (v := .bool true) rfl (by kernel_rfl) (fun c l s h => hQp c l s h) rfl (fun s' K hK => ?_) rfl rfl (fun _ => hR) ?_
                      · refine o_move ?_
                        exact hK
                      try dsimp only [putL, setL, evL, getL]
                      refine HK_passP 13 rfl (by kernel_rfl) (fun c l s h => hQp c l s h) ?_ (fun _ => hR) ?_
                      · exact wantF (j := 12) (b := false) (t := 123) (c := true) rfl rfl rfl rfl rfl
                      try dsimp only [putL, setL, evL, getL]
                      refine HK_passP 14 rfl (by kernel_rfl) (fun c l s h => hQp c l s h) ?_ (fun _ => hR) ?_
                      · exact wantF (j := 12) (b := false) (t := 123) (c := true) rfl rfl rfl rfl rfl
                      try dsimp only [putL, setL, evL, getL]
                      refine HK_passP 16 rfl (by kernel_rfl) (fun c l s h => hQp c l s h) ?_ (fun _ => hR) ?_
                      · exact wantF (j := 12) (b := false) (t := 123) (c := true) rfl rfl rfl rfl rfl
                      try dsimp only [putL, setL, evL, getL]
                      refine HK_more [15] (by kernel_rfl) rfl (fun _ => hR) ⟨⟨_, rfl, Or.inr ⟨wantF (j := 12) (b := false) (t := 123) (c := true) rfl rfl rfl rfl rfl, ?_⟩⟩, trivial⟩
                      try dsimp only [putL, setL, evL, getL]
                      refine HK_free (by kernel_rfl) ?_
                      refine HX_passP 17 rfl (by kernel_rfl) (fun c l s h => hQp c l s h) ?_ ?_
                      · exact wantF (j := 12) (b := false) (t := 123) (c := true) rfl rfl rfl rfl rfl
                      try dsimp only [putL, setL, evL, getL]
                      refine HX_passP 18 rfl (by kernel_rfl) (fun c l s h => hQp c l s h) ?_ ?_
                      · exact wantF (j := 12) (b := false) (t := 123) (c := true) rfl rfl rfl rfl rfl
                      try dsimp only [putL, setL, evL, getL]
                      refine HX_lim (R := fun _ => True) (k := 0) (fun s' => Gro s254 s') 47 ?_
                      have hR := Gro.refl s254
                      have hH0 := hH
                      refine HK_readP 19 (v := .bool true) rfl (by kernel_rfl) (fun c l s h => hQp c l s h) rfl (fun s' K hK => ?_) rfl rfl (fun _ => hR) ?_
                      · refine o_pickT rfl rfl ?_
                        exact hK
                      try dsimp only [putL, setL, evL, getL]
                      refine HK_readP 20 (v := .bool true) rfl (by kernel_rfl) (fun c l s h => hQp c l s h) rfl (fun s' K hK => ?_) rfl rfl (fun _ => hR) ?_
                      · refine o_move ?_
                        exact hK
                      try dsimp only [putL, setL, evL, getL]
                      refine HK_passP 21 rfl (by kernel_rfl) (fun c l s h => hQp c l s h) ?_ (fun _ => hR) ?_
                      · exact wantF (j := 20) (b := false) (t := 131) (c := true) rfl rfl rfl rfl rfl
                      try dsimp only [putL, setL, evL, getL]
                      refine HK_passP 22 rfl (by kernel_rfl) (fun c l s h => hQp c l s h) ?_ (fun _ => hR) ?_
                      · exact wantF (j := 20) (b := false) (t := 131) (c := true) rfl rfl rfl rfl rfl
                      try dsimp only [putL, setL, evL, getL]
                      refine HK_passP 23 rfl (by kernel_rfl) (fun c l s h => hQp c l s h) ?_ (fun _ => hR) ?_
                      · exact wantF (j := 20) (b := false) (t := 131) (c := true) rfl rfl rfl rfl rfl
                      try dsimp only [putL, setL, evL, getL]
                      refine HK_passP 24 rfl (by kernel_rfl) (fun c l s h => hQp c l s h) ?_ (fun _ => hR) ?_
                      · exact wantF (j := 20) (b := false) (t := 131) (c := true) rfl rfl rfl rfl rfl
                      try dsimp only [putL, setL, evL, getL]
                      refine HK_passP 25 rfl (by kernel_rfl) (fun c l s h => hQp c l s h) ?_ (fun _ => hR) ?_
                      · exact wantF (j := 20) (b := false) (t := 131) (c := true) rfl rfl rfl rfl rfl
                      try dsimp only [putL, setL, evL, getL]
                      refine HK_passP 26 rfl (by kernel_rfl) (fun c l s h => hQp c l s h) ?_ (fun _ => hR) ?_
                      · exact wantF (j := 20) (b := false) (t := 131) (c := true) rfl rfl rfl rfl rfl
                      try dsimp only [putL, setL, evL, getL]
                      refine HK_passP 27 rfl (by kernel_rfl) (fun c l s h => hQp c l s h) ?_ (fun _ => hR) ?_
                      · exact wantF (j := 20) (b := false) (t := 131) (c := true) rfl rfl rfl rfl rfl
                      try dsimp only [putL, setL, evL, getL]
                      refine HK_passP 28 rfl (by kernel_rfl) (fun c l s h => hQp c l s h) ?_ (fun _ => hR) ?_
                      · exact wantF (j := 20) (b := false) (t := 131) (c := true) rfl rfl rfl rfl rfl
                      try dsimp only [putL, setL, evL, getL]
                      refine HK_passP 29 rfl (by kernel_rfl) (fun c l s h => hQp c l s h) ?_ (fun _ => hR) ?_
                      · exact wantF (j := 20) (b := false) (t := 131) (c := true) rfl rfl rfl rfl rfl
                      try dsimp only [putL, setL, evL, getL]
                      refine HK_passP 30 rfl (by kernel_rfl) (fun c l s h => hQp c l s h) ?_ (fun _ => hR) ?_
                      · exact wantF (j := 20) (b := false) (t := 131) (c := true) rfl rfl rfl rfl rfl
                      try dsimp only [putL, setL, evL, getL]
                      refine HK_passP 31 rfl (by kernel_rfl) (fun c l s h => hQp c l s h) ?_ (fun _ => hR) ?_
                      · exact wantF (j := 20) (b := false) (t := 131) (c := true) rfl rfl rfl rfl rfl
                      try dsimp only [putL, setL, evL, getL]
                      refine HK_passP 32 rfl (by kernel_rfl) (fun c l s h => hQp c l s h) ?_ (fun _ => hR) ?_
                      · exact wantF (j := 20) (b := false) (t := 131) (c := true) rfl rfl rfl rfl rfl
                      try dsimp only [putL, setL, evL, getL]
                      refine HK_passP 33 rfl (by kernel_rfl) (fun c l s h => hQp c l s h) ?_ (fun _ => hR) ?_
                      · exact wantF (j := 20) (b := false) (t := 131) (c := true) rfl rfl rfl rfl rfl
                      try dsimp only [putL, setL, evL, getL]
                      refine HK_passP 34 rfl (by kernel_rfl) (fun c l s h => hQp c l s h) ?_ (fun _ => hR) ?_
                      · exact wantF (j := 20) (b := false) (t := 131) (c := true) rfl rfl rfl rfl rfl
                      try dsimp only [putL, setL, evL, getL]
                      refine HK_passP 35 rfl (by kernel_rfl) (fun c l s h => hQp c l s h) ?_ (fun _ => hR) ?_
                      · exact wantF (j := 20) (b := false) (t := 131) (c := true) rfl rfl rfl rfl rfl
                      try dsimp only [putL, setL, evL, getL]
                      refine HK_passP 36 rfl (by kernel_rfl) (fun c l s h => hQp c l s h) ?_ (fun _ => hR) ?_
                      · exact wantF (j := 20) (b := false) (t := 131) (c := true) rfl rfl rfl rfl rfl
                      try dsimp only [putL, setL, evL, getL]
                      refine HK_readP 37 (v := .bool true) rfl (by kernel_rfl) (fun c l s h => hQp c l s h) rfl (fun s' K hK => ?_) rfl rfl (fun _ => hR) ?_
                      · refine o_pickT rfl rfl ?_
                        exact hK
                      try dsimp only [putL, setL, evL, getL]
                      refine HK_readP 38 (v := .bool true) rfl (by kernel_rfl) (fun c l s h => hQp c l s h) rfl (fun s' K hK => ?_) rfl rfl (fun _ => hR) ?_
                      · refine o_move ?_
                        exact hK
                      try dsimp only [putL, setL, evL, getL]
                      refine HK_passP 39 rfl (by kernel_rfl) (fun c l s h => hQp c l s h) ?_ (fun _ => hR) ?_
                      · exact wantF (j := 38) (b := false) (t := 149) (c := true) rfl rfl rfl rfl rfl
                      try dsimp only [putL, setL, evL, getL]
                      refine HK_passP 40 rfl (by kernel_rfl) (fun c l s h => hQp c l s h) ?_ (fun _ => hR) ?_
                      · exact wantF (j := 38) (b := false) (t := 149) (c := true) rfl rfl rfl rfl rfl
                      try dsimp only [putL, setL, evL, getL]
                      refine HK_passP 41 rfl (by kernel_rfl) (fun c l s h => hQp c l s h) ?_ (fun _ => hR) ?_
                      · exact wantF (j := 38) (b := false) (t := 149) (c := true) rfl rfl rfl rfl rfl
                      try dsimp only [putL, setL, evL, getL]
                      refine HK_passP 42 rfl (by kernel_rfl) (fun c l s h => hQp c l s h) ?_ (fun _ => hR) ?_
                      · exact wantF (j := 38) (b := false) (t := 149) (c := true) rfl rfl rfl rfl rfl
                      try dsimp only [putL, setL, evL, getL]
                      refine HK_passP 43 rfl (by kernel_rfl) (fun c l s h => hQp c l s h) ?_ (fun _ => hR) ?_
                      · exact wantF (j := 38) (b := false) (t := 149) (c := true) rfl rfl rfl rfl rfl
                      try dsimp only [putL, setL, evL, getL]
                      refine HK_passP 44 rfl (by kernel_rfl) (fun c l s h => hQp c l s h) ?_ (fun _ => hR) ?_
                      · exact wantF (j := 38) (b := false) (t := 149) (c := true) rfl rfl rfl rfl rfl
                      try dsimp only [putL, setL, evL, getL]
                      refine HK_readP 45 (v := .bool true) rfl (by kernel_rfl) (fun c l s h => hQp c l s h) rfl (fun s' K hK => ?_) rfl rfl (fun _ => hR) ?_
                      · refine o_pickT rfl rfl ?_
                        exact hK
                      try dsimp only [putL, setL, evL, getL]
                      refine HK_done (fun _ => hR) (by kernel_rfl) ?_
                      exact hK255 _ _ ⟨true, H, rfl, hH.sel [] (by decide)⟩
                    · replace H := iteF hb269 H
                      refine HK_read 7 (v := .agg #[.int .i64 x236, .slice A237 x237.length c237, .slice A238 x238.length c238, .int .i64 x239]) rfl (by kernel_rfl) (fun c l s h => hQp c l s h) (wantT (j := 6) (b := false) (t := 117) (c := !x235) rfl rfl rfl rfl hb269) (fun s' hR' K hK => ?_) rfl rfl hR ?_
                      · refine o_loads' [.int .i64 x236, .slice A237 x237.length c237, .slice A238 x238.length c238, .int .i64 x239] rfl Try.underlying37 rfl tI37 rfl (fun j v hj => has_gro hR' ((hH0.partv 12 rfl (0) [.int .i64 x236, .slice A237 x237.length c237, .slice A238 x238.length c238, .int .i64 x239] rfl) j v hj)) ?_
                        exact hK
                      try dsimp only [putL, setL, evL, getL]
                      refine HK_read 8 (v := .agg #[.int .i64 u16.1, .slice A17 u16.2.1.length c17, .slice A18 u16.2.2.1.length c18, .int .i64 u16.2.2.2.1]) rfl (by kernel_rfl) (fun c l s h => hQp c l s h) (wantT (j := 6) (b := false) (t := 117) (c := !x235) rfl rfl rfl rfl hb269) (fun s' hR' K hK => ?_) rfl rfl hR ?_
                      · refine o_loads' [.int .i64 u16.1, .slice A17 u16.2.1.length c17, .slice A18 u16.2.2.1.length c18, .int .i64 u16.2.2.2.1] rfl Try.underlying37 rfl tI37 rfl (fun j v hj => has_gro hR' ((hH0.partv 11 rfl (0) [.int .i64 u16.1, .slice A17 u16.2.1.length c17, .slice A18 u16.2.2.1.length c18, .int .i64 u16.2.2.2.1] rfl) j v hj)) ?_
                        exact hK
                      try dsimp only [putL, setL, evL, getL]
                      refine HK_more [9] (by kernel_rfl) rfl (fun _ => hR) ⟨⟨_, rfl, Or.inl ⟨(wantT (j := 6) (b := false) (t := 117) (c := !x235) rfl rfl rfl rfl hb269), ?_⟩⟩, trivial⟩
                      replace H := headE H
                      obtain ⟨u270, hu270, H⟩ := H
                      skip
                      refine o_call (args := #[.agg #[.int .i64 x236, .slice A237 x237.length c237, .slice A238 x238.length c238, .int .i64 x239], .agg #[.int .i64 u16.1, .slice A17 u16.2.1.length c17, .slice A18 u16.2.2.1.length c18, .int .i64 u16.2.2.2.1]]) Try.func27 rfl rfl rfl (laws_sameBuf.ok s254 s254 no x236 A237 c237 x237 A238 c238 x238 x239 u16.1 A17 c17 u16.2.1 A18 c18 u16.2.2.1 u16.2.2.2.1 (hH.rd 1 rfl) (hH.rd 2 rfl) (hH.rd 8 rfl) (hH.rd 9 rfl) (Hp.own (Bs.refl s254)) _ hu270) ?_
                      rintro _ s270 ⟨rfl, hD⟩
                      replace hR := hR.trans hD.gro
                      replace hH := hH.back0T hD
                      clear hD
                      dsimp only [addC, setC, rmC, selC, getC] at hH
                      try dsimp only [putL, setL, evL, getL]
                      refine HK_readP 10 (v := .bool (!u270)) rfl (by kernel_rfl) (fun c l s h => hQp c l s h) (wantT (j := 6) (b := false) (t := 117) (c := !x235) rfl rfl rfl rfl hb269) (fun s' K hK => ?_) rfl rfl (fun _ => hR) ?_
                      · refine o_not rfl ?_
                        exact hK
                      try dsimp only [putL, setL, evL, getL]
                      refine HK_readP 11 (v := .bool (!u270)) rfl (by kernel_rfl) (fun c l s h => hQp c l s h) rfl (fun s' K hK => ?_) rfl rfl (fun _ => hR) ?_
                      · refine o_pickF rfl hb269 ?_
                        exact hK
                      try dsimp only [putL, setL, evL, getL]
                      refine HK_readP 12 (v := .bool (!u270)) rfl (by kernel_rfl) (fun c l s h => hQp c l s h) rfl (fun s' K hK => ?_) rfl rfl (fun _ => hR) ?_
                      · refine o_move ?_
                        exact hK
                      try dsimp only [putL, setL, evL, getL]
                      rcases Bool.eq_false_or_eq_true (!u270) with hb271 | hb271
                      · replace H := iteT hb271 H
                        refine HK_passP 13 rfl (by kernel_rfl) (fun c l s h => hQp c l s h) ?_ (fun _ => hR) ?_
                        · exact wantF (j := 12) (b := false) (t := 123) (c := !u270) rfl rfl rfl rfl hb271
                        try dsimp only [putL, setL, evL, getL]
                        refine HK_passP 14 rfl (by kernel_rfl) (fun c l s h => hQp c l s h) ?_ (fun _ => hR) ?_
                        · exact wantF (j := 12) (b := false) (t := 123) (c := !u270) rfl rfl rfl rfl hb271
                        try dsimp only [putL, setL, evL, getL]
                        refine HK_passP 16 rfl (by kernel_rfl) (fun c l s h => hQp c l s h) ?_ (fun _ => hR) ?_
                        · exact wantF (j := 12) (b := false) (t := 123) (c := !u270) rfl rfl rfl rfl hb271
                        try dsimp only [putL, setL, evL, getL]
                        refine HK_more [15] (by kernel_rfl) rfl (fun _ => hR) ⟨⟨_, rfl, Or.inr ⟨wantF (j := 12) (b := false) (t := 123) (c := !u270) rfl rfl rfl rfl hb271, ?_⟩⟩, trivial⟩
                        try dsimp only [putL, setL, evL, getL]
                        refine HK_free (by kernel_rfl) ?_
                        refine HX_passP 17 rfl (by kernel_rfl) (fun c l s h => hQp c l s h) ?_ ?_
                        · exact wantF (j := 12) (b := false) (t := 123) (c := !u270) rfl rfl rfl rfl hb271
                        try dsimp only [putL, setL, evL, getL]
                        refine HX_passP 18 rfl (by kernel_rfl) (fun c l s h => hQp c l s h) ?_ ?_
                        · exact wantF (j := 12) (b := false) (t := 123) (c := !u270) rfl rfl rfl rfl hb271
                        try dsimp only [putL, setL, evL, getL]
                        refine HX_lim (R := fun _ => True) (k := 0) (fun s' => Gro s270 s') 47 ?_
                        have hR := Gro.refl s270
                        have hH0 := hH
                        refine HK_readP 19 (v := .bool true) rfl (by kernel_rfl) (fun c l s h => hQp c l s h) rfl (fun s' K hK => ?_) rfl rfl (fun _ => hR) ?_
                        · refine o_pickT rfl hb271 ?_
                          exact hK
                        try dsimp only [putL, setL, evL, getL]
                        refine HK_readP 20 (v := .bool true) rfl (by kernel_rfl) (fun c l s h => hQp c l s h) rfl (fun s' K hK => ?_) rfl rfl (fun _ => hR) ?_
                        · refine o_move ?_
                          exact hK
                        try dsimp only [putL, setL, evL, getL]
                        refine HK_passP 21 rfl (by kernel_rfl) (fun c l s h => hQp c l s h) ?_ (fun _ => hR) ?_
                        · exact wantF (j := 20) (b := false) (t := 131) (c := true) rfl rfl rfl rfl rfl
                        try dsimp only [putL, setL, evL, getL]
                        refine HK_passP 22 rfl (by kernel_rfl) (fun c l s h => hQp c l s h) ?_ (fun _ => hR) ?_
                        · exact wantF (j := 20) (b := false) (t := 131) (c := true) rfl rfl rfl rfl rfl
                        try dsimp only [putL, setL, evL, getL]
                        refine HK_passP 23 rfl (by kernel_rfl) (fun c l s h => hQp c l s h) ?_ (fun _ => hR) ?_
                        · exact wantF (j := 20) (b := false) (t := 131) (c := true) rfl rfl rfl rfl rfl
                        try dsimp only [putL, setL, evL, getL]
                        refine HK_passP 24 rfl (by kernel_rfl) (fun c l s h => hQp c l s h) ?_ (fun _ => hR) ?_
                        · exact wantF (j := 20) (b := false) (t := 131) (c := true) rfl rfl rfl rfl rfl
                        try dsimp only [putL, setL, evL, getL]
                        refine HK_passP 25 rfl (by kernel_rfl) (fun c l s h => hQp c l s h) ?_ (fun _ => hR) ?_
                        · exact wantF (j := 20) (b := false) (t := 131) (c := true) rfl rfl rfl rfl rfl
                        try dsimp only [putL, setL, evL, getL]
                        refine HK_passP 26 rfl (by kernel_rfl) (fun c l s h => hQp c l s h) ?_ (fun _ => hR) ?_
                        · exact wantF (j := 20) (b := false) (t := 131) (c := true) rfl rfl rfl rfl rfl
                        try dsimp only [putL, setL, evL, getL]
                        refine HK_passP 27 rfl (by kernel_rfl) (fun c l s h => hQp c l s h) ?_ (fun _ => hR) ?_
                        · exact wantF (j := 20) (b := false) (t := 131) (c := true) rfl rfl rfl rfl rfl
                        try dsimp only [putL, setL, evL, getL]
                        refine HK_passP 28 rfl (by kernel_rfl) (fun c l s h => hQp c l s h) ?_ (fun _ => hR) ?_
                        · exact wantF (j := 20) (b := false) (t := 131) (c := true) rfl rfl rfl rfl rfl
                        try dsimp only [putL, setL, evL, getL]
                        refine HK_passP 29 rfl (by kernel_rfl) (fun c l s h => hQp c l s h) ?_ (fun _ => hR) ?_
                        · exact wantF (j := 20) (b := false) (t := 131) (c := true) rfl rfl rfl rfl rfl
                        try dsimp only [putL, setL, evL, getL]
                        refine HK_passP 30 rfl (by kernel_rfl) (fun c l s h => hQp c l s h) ?_ (fun _ => hR) ?_
                        · exact wantF (j := 20) (b := false) (t := 131) (c := true) rfl rfl rfl rfl rfl
                        try dsimp only [putL, setL, evL, getL]
                        refine HK_passP 31 rfl (by kernel_rfl) (fun c l s h => hQp c l s h) ?_ (fun _ => hR) ?_
                        · exact wantF (j := 20) (b := false) (t := 131) (c := true) rfl rfl rfl rfl rfl
                        try dsimp only [putL, setL, evL, getL]
                        refine HK_passP 32 rfl (by kernel_rfl) (fun c l s h => hQp c l s h) ?_ (fun _ => hR) ?_
                        · exact wantF (j := 20) (b := false) (t := 131) (c := true) rfl rfl rfl rfl rfl
                        try dsimp only [putL, setL, evL, getL]
                        refine HK_passP 33 rfl (by kernel_rfl) (fun c l s h => hQp c l s h) ?_ (fun _ => hR) ?_
                        · exact wantF (j := 20) (b := false) (t := 131) (c := true) rfl rfl rfl rfl rfl
                        try dsimp only [putL, setL, evL, getL]
                        refine HK_passP 34 rfl (by kernel_rfl) (fun c l s h => hQp c l s h) ?_ (fun _ => hR) ?_
                        · exact wantF (j := 20) (b := false) (t := 131) (c := true) rfl rfl rfl rfl rfl
                        try dsimp only [putL, setL, evL, getL]
                        refine HK_passP 35 rfl (by kernel_rfl) (fun c l s h => hQp c l s h) ?_ (fun _ => hR) ?_
                        · exact wantF (j := 20) (b := false) (t := 131) (c := true) rfl rfl rfl rfl rfl
                        try dsimp only [putL, setL, evL, getL]
                        refine HK_passP 36 rfl (by kernel_rfl) (fun c l s h => hQp c l s h) ?_ (fun _ => hR) ?_
                        · exact wantF (j := 20) (b := false) (t := 131) (c := true) rfl rfl rfl rfl rfl
                        try dsimp only [putL, setL, evL, getL]
                        refine HK_readP 37 (v := .bool true) rfl (by kernel_rfl) (fun c l s h => hQp c l s h) rfl (fun s' K hK => ?_) rfl rfl (fun _ => hR) ?_
                        · refine o_pickT rfl rfl ?_
                          exact hK
                        try dsimp only [putL, setL, evL, getL]
                        refine HK_readP 38 (v := .bool true) rfl (by kernel_rfl) (fun c l s h => hQp c l s h) rfl (fun s' K hK => ?_) rfl rfl (fun _ => hR) ?_
                        · refine o_move ?_
                          exact hK
                        try dsimp only [putL, setL, evL, getL]
                        refine HK_passP 39 rfl (by kernel_rfl) (fun c l s h => hQp c l s h) ?_ (fun _ => hR) ?_
                        · exact wantF (j := 38) (b := false) (t := 149) (c := true) rfl rfl rfl rfl rfl
                        try dsimp only [putL, setL, evL, getL]
                        refine HK_passP 40 rfl (by kernel_rfl) (fun c l s h => hQp c l s h) ?_ (fun _ => hR) ?_
                        · exact wantF (j := 38) (b := false) (t := 149) (c := true) rfl rfl rfl rfl rfl
                        try dsimp only [putL, setL, evL, getL]
                        refine HK_passP 41 rfl (by kernel_rfl) (fun c l s h => hQp c l s h) ?_ (fun _ => hR) ?_
                        · exact wantF (j := 38) (b := false) (t := 149) (c := true) rfl rfl rfl rfl rfl
                        try dsimp only [putL, setL, evL, getL]
                        refine HK_passP 42 rfl (by kernel_rfl) (fun c l s h => hQp c l s h) ?_ (fun _ => hR) ?_
                        · exact wantF (j := 38) (b := false) (t := 149) (c := true) rfl rfl rfl rfl rfl
                        try dsimp only [putL, setL, evL, getL]
                        refine HK_passP 43 rfl (by kernel_rfl) (fun c l s h => hQp c l s h) ?_ (fun _ => hR) ?_
                        · exact wantF (j := 38) (b := false) (t := 149) (c := true) rfl rfl rfl rfl rfl
                        try dsimp only [putL, setL, evL, getL]
                        refine HK_passP 44 rfl (by kernel_rfl) (fun c l s h => hQp c l s h) ?_ (fun _ => hR) ?_
                        · exact wantF (j := 38) (b := false) (t := 149) (c := true) rfl rfl rfl rfl rfl
                        try dsimp only [putL, setL, evL, getL]
                        refine HK_readP 45 (v := .bool true) rfl (by kernel_rfl) (fun c l s h => hQp c l s h) rfl (fun s' K hK => ?_) rfl rfl (fun _ => hR) ?_
                        · refine o_pickT rfl rfl ?_
                          exact hK
                        try dsimp only [putL, setL, evL, getL]
                        refine HK_done (fun _ => hR) (by kernel_rfl) ?_
                        exact hK255 _ _ ⟨true, H, rfl, hH.sel [] (by decide)⟩
                      · replace H := iteF hb271 H
                        refine HK_readP 13 (v := .slice A197 x197.length c197) rfl (by kernel_rfl) (fun c l s h => hQp c l s h) (wantT (j := 12) (b := false) (t := 123) (c := !u270) rfl rfl rfl rfl hb271) (fun s' K hK => ?_) rfl rfl (fun _ => hR) ?_
                        · refine o_move ?_
                          exact hK
                        try dsimp only [putL, setL, evL, getL]
                        refine HK_readP 14 (v := .slice A234 x234.length c234) rfl (by kernel_rfl) (fun c l s h => hQp c l s h) (wantT (j := 12) (b := false) (t := 123) (c := !u270) rfl rfl rfl rfl hb271) (fun s' K hK => ?_) rfl rfl (fun _ => hR) ?_
                        · refine o_move ?_
                          exact hK
                        try dsimp only [putL, setL, evL, getL]
                        refine HK_readP 16 (v := .slice A19 u16.2.2.2.2.1.length c19) rfl (by kernel_rfl) (fun c l s h => hQp c l s h) (wantT (j := 12) (b := false) (t := 123) (c := !u270) rfl rfl rfl rfl hb271) (fun s' K hK => ?_) rfl rfl (fun _ => hR) ?_
                        · refine o_move ?_
                          exact hK
                        try dsimp only [putL, setL, evL, getL]
                        refine HK_more [15] (by kernel_rfl) rfl (fun _ => hR) ⟨⟨_, rfl, Or.inl ⟨(wantT (j := 12) (b := false) (t := 123) (c := !u270) rfl rfl rfl rfl hb271), ?_⟩⟩, trivial⟩
                        replace H := headE H
                        obtain ⟨x272, hx272, H⟩ := H
                        skip
                        refine o_appF (K := KI) (n := 17592186044416) (A := A197) (c := c197) (xs := x197) (ys := x234) (B := A234) (c2 := c234) hH 5 rfl rfl rfl rfl Try.underlying24 tI3 rfl (by decide) (by decide) (by decide) (Src.flat (hH.rd 0 rfl)) hx272 ?_
                        intro A272 c272 s272 hH'
                        replace hH : Hp sb s F0 s272 [Ck.ol OI 3 A234 c234 x234, Ck.ol OI 3 A237 c237 x237, Ck.ol OI 3 A238 c238 x238, Ck.ol OI 3 A12 c12 u8.2.2.2.2.2, Ck.ol OI 3 A19 c19 u16.2.2.2.2.1, Ck.ol OI 3 A272 c272 x272, Ck.ol OI 3 A9 c9 u8.2.1, Ck.ol OI 3 A10 c10 u8.2.2.1, Ck.ol OI 3 A17 c17 u16.2.1, Ck.ol OI 3 A18 c18 u16.2.2.1, Ck.ov b13 [.int .i64 u8.1, .slice A9 u8.2.1.length c9, .slice A10 u8.2.2.1.length c10, .int .i64 u8.2.2.2.1] 37, Ck.ov b20 [.int .i64 u16.1, .slice A17 u16.2.1.length c17, .slice A18 u16.2.2.1.length c18, .int .i64 u16.2.2.2.1] 37, Ck.ov b233 [.int .i64 x236, .slice A237 x237.length c237, .slice A238 x238.length c238, .int .i64 x239] 37] := hH'
                        clear hH'
                        try dsimp only [putL, setL, evL, getL]
                        refine HK_free (by kernel_rfl) ?_
                        refine HX_lim (R := fun _ => True) (k := 0) (fun s' => Gro s272 s') 47 ?_
                        have hR := Gro.refl s272
                        have hH0 := hH
                        refine HK_more [17] (by kernel_rfl) rfl (fun _ => hR) ⟨⟨_, rfl, Or.inl ⟨(wantT (j := 12) (b := false) (t := 123) (c := !u270) rfl rfl rfl rfl hb271), ?_⟩⟩, trivial⟩
                        replace H := headE H
                        obtain ⟨u273, hu273, H⟩ := H
                        skip
                        refine o_call (args := #[.slice A272 x272.length c272, .slice A19 u16.2.2.2.2.1.length c19]) Try.func18 rfl rfl rfl (laws_sameInts.ok s272 s272 no A272 c272 x272 A19 c19 u16.2.2.2.2.1 (hH.rd 5 rfl) (hH.rd 4 rfl) (Hp.own (Bs.refl s272)) _ hu273) ?_
                        rintro _ s273 ⟨rfl, hD⟩
                        replace hR := hR.trans hD.gro
                        replace hH := hH.back0T hD
                        clear hD
                        dsimp only [addC, setC, rmC, selC, getC] at hH
                        try dsimp only [putL, setL, evL, getL]
                        refine HK_readP 18 (v := .bool (!u273)) rfl (by kernel_rfl) (fun c l s h => hQp c l s h) (wantT (j := 12) (b := false) (t := 123) (c := !u270) rfl rfl rfl rfl hb271) (fun s' K hK => ?_) rfl rfl (fun _ => hR) ?_
                        · refine o_not rfl ?_
                          exact hK
                        try dsimp only [putL, setL, evL, getL]
                        refine HK_readP 19 (v := .bool (!u273)) rfl (by kernel_rfl) (fun c l s h => hQp c l s h) rfl (fun s' K hK => ?_) rfl rfl (fun _ => hR) ?_
                        · refine o_pickF rfl hb271 ?_
                          exact hK
                        try dsimp only [putL, setL, evL, getL]
                        refine HK_readP 20 (v := .bool (!u273)) rfl (by kernel_rfl) (fun c l s h => hQp c l s h) rfl (fun s' K hK => ?_) rfl rfl (fun _ => hR) ?_
                        · refine o_move ?_
                          exact hK
                        try dsimp only [putL, setL, evL, getL]
                        rcases Bool.eq_false_or_eq_true (!u273) with hb274 | hb274
                        · replace H := iteT hb274 H
                          refine HK_passP 21 rfl (by kernel_rfl) (fun c l s h => hQp c l s h) ?_ (fun _ => hR) ?_
                          · exact wantF (j := 20) (b := false) (t := 131) (c := !u273) rfl rfl rfl rfl hb274
                          try dsimp only [putL, setL, evL, getL]
                          refine HK_passP 22 rfl (by kernel_rfl) (fun c l s h => hQp c l s h) ?_ (fun _ => hR) ?_
                          · exact wantF (j := 20) (b := false) (t := 131) (c := !u273) rfl rfl rfl rfl hb274
                          try dsimp only [putL, setL, evL, getL]
                          refine HK_passP 23 rfl (by kernel_rfl) (fun c l s h => hQp c l s h) ?_ (fun _ => hR) ?_
                          · exact wantF (j := 20) (b := false) (t := 131) (c := !u273) rfl rfl rfl rfl hb274
                          try dsimp only [putL, setL, evL, getL]
                          refine HK_passP 24 rfl (by kernel_rfl) (fun c l s h => hQp c l s h) ?_ (fun _ => hR) ?_
                          · exact wantF (j := 20) (b := false) (t := 131) (c := !u273) rfl rfl rfl rfl hb274
                          try dsimp only [putL, setL, evL, getL]
                          refine HK_passP 25 rfl (by kernel_rfl) (fun c l s h => hQp c l s h) ?_ (fun _ => hR) ?_
                          · exact wantF (j := 20) (b := false) (t := 131) (c := !u273) rfl rfl rfl rfl hb274
                          try dsimp only [putL, setL, evL, getL]
                          refine HK_passP 26 rfl (by kernel_rfl) (fun c l s h => hQp c l s h) ?_ (fun _ => hR) ?_
                          · exact wantF (j := 20) (b := false) (t := 131) (c := !u273) rfl rfl rfl rfl hb274
                          try dsimp only [putL, setL, evL, getL]
                          refine HK_passP 27 rfl (by kernel_rfl) (fun c l s h => hQp c l s h) ?_ (fun _ => hR) ?_
                          · exact wantF (j := 20) (b := false) (t := 131) (c := !u273) rfl rfl rfl rfl hb274
                          try dsimp only [putL, setL, evL, getL]
                          refine HK_passP 28 rfl (by kernel_rfl) (fun c l s h => hQp c l s h) ?_ (fun _ => hR) ?_
                          · exact wantF (j := 20) (b := false) (t := 131) (c := !u273) rfl rfl rfl rfl hb274
                          try dsimp only [putL, setL, evL, getL]
                          refine HK_passP 29 rfl (by kernel_rfl) (fun c l s h => hQp c l s h) ?_ (fun _ => hR) ?_
                          · exact wantF (j := 20) (b := false) (t := 131) (c := !u273) rfl rfl rfl rfl hb274
                          try dsimp only [putL, setL, evL, getL]
                          refine HK_passP 30 rfl (by kernel_rfl) (fun c l s h => hQp c l s h) ?_ (fun _ => hR) ?_
                          · exact wantF (j := 20) (b := false) (t := 131) (c := !u273) rfl rfl rfl rfl hb274
                          try dsimp only [putL, setL, evL, getL]
                          refine HK_passP 31 rfl (by kernel_rfl) (fun c l s h => hQp c l s h) ?_ (fun _ => hR) ?_
                          · exact wantF (j := 20) (b := false) (t := 131) (c := !u273) rfl rfl rfl rfl hb274
                          try dsimp only [putL, setL, evL, getL]
                          refine HK_passP 32 rfl (by kernel_rfl) (fun c l s h => hQp c l s h) ?_ (fun _ => hR) ?_
                          · exact wantF (j := 20) (b := false) (t := 131) (c := !u273) rfl rfl rfl rfl hb274
                          try dsimp only [putL, setL, evL, getL]
                          refine HK_passP 33 rfl (by kernel_rfl) (fun c l s h => hQp c l s h) ?_ (fun _ => hR) ?_
                          · exact wantF (j := 20) (b := false) (t := 131) (c := !u273) rfl rfl rfl rfl hb274
                          try dsimp only [putL, setL, evL, getL]
                          refine HK_passP 34 rfl (by kernel_rfl) (fun c l s h => hQp c l s h) ?_ (fun _ => hR) ?_
                          · exact wantF (j := 20) (b := false) (t := 131) (c := !u273) rfl rfl rfl rfl hb274
                          try dsimp only [putL, setL, evL, getL]
                          refine HK_passP 35 rfl (by kernel_rfl) (fun c l s h => hQp c l s h) ?_ (fun _ => hR) ?_
                          · exact wantF (j := 20) (b := false) (t := 131) (c := !u273) rfl rfl rfl rfl hb274
                          try dsimp only [putL, setL, evL, getL]
                          refine HK_passP 36 rfl (by kernel_rfl) (fun c l s h => hQp c l s h) ?_ (fun _ => hR) ?_
                          · exact wantF (j := 20) (b := false) (t := 131) (c := !u273) rfl rfl rfl rfl hb274
                          try dsimp only [putL, setL, evL, getL]
                          refine HK_readP 37 (v := .bool true) rfl (by kernel_rfl) (fun c l s h => hQp c l s h) rfl (fun s' K hK => ?_) rfl rfl (fun _ => hR) ?_
                          · refine o_pickT rfl hb274 ?_
                            exact hK
                          try dsimp only [putL, setL, evL, getL]
                          refine HK_readP 38 (v := .bool true) rfl (by kernel_rfl) (fun c l s h => hQp c l s h) rfl (fun s' K hK => ?_) rfl rfl (fun _ => hR) ?_
                          · refine o_move ?_
                            exact hK
                          try dsimp only [putL, setL, evL, getL]
                          refine HK_passP 39 rfl (by kernel_rfl) (fun c l s h => hQp c l s h) ?_ (fun _ => hR) ?_
                          · exact wantF (j := 38) (b := false) (t := 149) (c := true) rfl rfl rfl rfl rfl
                          try dsimp only [putL, setL, evL, getL]
                          refine HK_passP 40 rfl (by kernel_rfl) (fun c l s h => hQp c l s h) ?_ (fun _ => hR) ?_
                          · exact wantF (j := 38) (b := false) (t := 149) (c := true) rfl rfl rfl rfl rfl
                          try dsimp only [putL, setL, evL, getL]
                          refine HK_passP 41 rfl (by kernel_rfl) (fun c l s h => hQp c l s h) ?_ (fun _ => hR) ?_
                          · exact wantF (j := 38) (b := false) (t := 149) (c := true) rfl rfl rfl rfl rfl
                          try dsimp only [putL, setL, evL, getL]
                          refine HK_passP 42 rfl (by kernel_rfl) (fun c l s h => hQp c l s h) ?_ (fun _ => hR) ?_
                          · exact wantF (j := 38) (b := false) (t := 149) (c := true) rfl rfl rfl rfl rfl
                          try dsimp only [putL, setL, evL, getL]
                          refine HK_passP 43 rfl (by kernel_rfl) (fun c l s h => hQp c l s h) ?_ (fun _ => hR) ?_
                          · exact wantF (j := 38) (b := false) (t := 149) (c := true) rfl rfl rfl rfl rfl
                          try dsimp only [putL, setL, evL, getL]
                          refine HK_passP 44 rfl (by kernel_rfl) (fun c l s h => hQp c l s h) ?_ (fun _ => hR) ?_
                          · exact wantF (j := 38) (b := false) (t := 149) (c := true) rfl rfl rfl rfl rfl
                          try dsimp only [putL, setL, evL, getL]
                          refine HK_readP 45 (v := .bool true) rfl (by kernel_rfl) (fun c l s h => hQp c l s h) rfl (fun s' K hK => ?_) rfl rfl (fun _ => hR) ?_
                          · refine o_pickT rfl rfl ?_
                            exact hK
                          try dsimp only [putL, setL, evL, getL]
                          refine HK_done (fun _ => hR) (by kernel_rfl) ?_
                          exact hK255 _ _ ⟨true, H, rfl, hH.sel [] (by decide)⟩
                        · replace H := iteF hb274 H
                          refine HK_readP 21 (v := .pointer (some ⟨b20, 0 + 3, none⟩)) rfl (by kernel_rfl) (fun c l s h => hQp c l s h) (wantT (j := 20) (b := false) (t := 131) (c := !u273) rfl rfl rfl rfl hb274) (fun s' K hK => ?_) rfl rfl (fun _ => hR) ?_
                          · refine o_faddr' (ft := 3) (off := 3) rfl Try.underlying37 rfl tI3 (by decide) ?_
                            exact hK
                          try dsimp only [putL, setL, evL, getL]
                          refine HK_read 22 (v := .int .i64 u16.2.2.2.1) rfl (by kernel_rfl) (fun c l s h => hQp c l s h) (wantT (j := 20) (b := false) (t := 131) (c := !u273) rfl rfl rfl rfl hb274) (fun s' hR' K hK => ?_) rfl rfl hR ?_
                          · refine o_load' rfl Try.underlying3 rfl (has_gro hR' (hH0.hasv 11 rfl rfl)) ?_
                            exact hK
                          try dsimp only [putL, setL, evL, getL]
                          refine HK_readP 23 (v := .pointer (some ⟨b20, 0 + 2, none⟩)) rfl (by kernel_rfl) (fun c l s h => hQp c l s h) (wantT (j := 20) (b := false) (t := 131) (c := !u273) rfl rfl rfl rfl hb274) (fun s' K hK => ?_) rfl rfl (fun _ => hR) ?_
                          · refine o_faddr' (ft := 24) (off := 2) rfl Try.underlying37 rfl tI24 (by decide) ?_
                            exact hK
                          try dsimp only [putL, setL, evL, getL]
                          refine HK_read 24 (v := .slice A18 u16.2.2.1.length c18) rfl (by kernel_rfl) (fun c l s h => hQp c l s h) (wantT (j := 20) (b := false) (t := 131) (c := !u273) rfl rfl rfl rfl hb274) (fun s' hR' K hK => ?_) rfl rfl hR ?_
                          · refine o_load' rfl Try.underlying24 rfl (has_gro hR' (hH0.hasv 11 rfl rfl)) ?_
                            exact hK
                          try dsimp only [putL, setL, evL, getL]
                          refine HK_readP 27 (v := .pointer (some ⟨b13, 0 + 3, none⟩)) rfl (by kernel_rfl) (fun c l s h => hQp c l s h) (wantT (j := 20) (b := false) (t := 131) (c := !u273) rfl rfl rfl rfl hb274) (fun s' K hK => ?_) rfl rfl (fun _ => hR) ?_
                          · refine o_faddr' (ft := 3) (off := 3) rfl Try.underlying37 rfl tI3 (by decide) ?_
                            exact hK
                          try dsimp only [putL, setL, evL, getL]
                          refine HK_read 28 (v := .int .i64 u8.2.2.2.1) rfl (by kernel_rfl) (fun c l s h => hQp c l s h) (wantT (j := 20) (b := false) (t := 131) (c := !u273) rfl rfl rfl rfl hb274) (fun s' hR' K hK => ?_) rfl rfl hR ?_
                          · refine o_load' rfl Try.underlying3 rfl (has_gro hR' (hH0.hasv 10 rfl rfl)) ?_
                            exact hK
                          try dsimp only [putL, setL, evL, getL]
                          refine HK_readP 29 (v := .pointer (some ⟨b13, 0 + 2, none⟩)) rfl (by kernel_rfl) (fun c l s h => hQp c l s h) (wantT (j := 20) (b := false) (t := 131) (c := !u273) rfl rfl rfl rfl hb274) (fun s' K hK => ?_) rfl rfl (fun _ => hR) ?_
                          · refine o_faddr' (ft := 24) (off := 2) rfl Try.underlying37 rfl tI24 (by decide) ?_
                            exact hK
                          try dsimp only [putL, setL, evL, getL]
                          refine HK_read 30 (v := .slice A10 u8.2.2.1.length c10) rfl (by kernel_rfl) (fun c l s h => hQp c l s h) (wantT (j := 20) (b := false) (t := 131) (c := !u273) rfl rfl rfl rfl hb274) (fun s' hR' K hK => ?_) rfl rfl hR ?_
                          · refine o_load' rfl Try.underlying24 rfl (has_gro hR' (hH0.hasv 10 rfl rfl)) ?_
                            exact hK
                          try dsimp only [putL, setL, evL, getL]
                          refine HK_readP 33 (v := .slice A12 u8.2.2.2.2.2.length c12) rfl (by kernel_rfl) (fun c l s h => hQp c l s h) (wantT (j := 20) (b := false) (t := 131) (c := !u273) rfl rfl rfl rfl hb274) (fun s' K hK => ?_) rfl rfl (fun _ => hR) ?_
                          · refine o_move ?_
                            exact hK
                          try dsimp only [putL, setL, evL, getL]
                          refine HK_more [25] (by kernel_rfl) rfl (fun _ => hR) ⟨⟨_, rfl, Or.inl ⟨(wantT (j := 20) (b := false) (t := 131) (c := !u273) rfl rfl rfl rfl hb274), ?_⟩⟩, trivial⟩
                          replace H := headE H
                          obtain ⟨u275, hu275, H⟩ := H
                          skip
                          refine o_call (args := #[.slice A18 u16.2.2.1.length c18]) Try.func31 rfl rfl rfl (laws_sum.ok s273 s273 no A18 c18 u16.2.2.1 (hH.rd 9 rfl) (Hp.own (Bs.refl s273)) _ hu275) ?_
                          rintro _ s275 ⟨rfl, hD⟩
                          replace hR := hR.trans hD.gro
                          replace hH := hH.back0T hD
                          clear hD
                          dsimp only [addC, setC, rmC, selC, getC] at hH
                          try dsimp only [putL, setL, evL, getL]
                          refine HK_readP 26 (v := .int .i64 (IntKind.i64.wrap (u16.2.2.2.1 + u275))) rfl (by kernel_rfl) (fun c l s h => hQp c l s h) (wantT (j := 20) (b := false) (t := 131) (c := !u273) rfl rfl rfl rfl hb274) (fun s' K hK => ?_) rfl rfl (fun _ => hR) ?_
                          · refine o_bin rfl rfl rfl ?_
                            exact hK
                          try dsimp only [putL, setL, evL, getL]
                          refine HK_more [31] (by kernel_rfl) rfl (fun _ => hR) ⟨⟨_, rfl, Or.inl ⟨(wantT (j := 20) (b := false) (t := 131) (c := !u273) rfl rfl rfl rfl hb274), ?_⟩⟩, trivial⟩
                          replace H := headE H
                          obtain ⟨u276, hu276, H⟩ := H
                          skip
                          refine o_call (args := #[.slice A10 u8.2.2.1.length c10]) Try.func31 rfl rfl rfl (laws_sum.ok s275 s275 no A10 c10 u8.2.2.1 (hH.rd 7 rfl) (Hp.own (Bs.refl s275)) _ hu276) ?_
                          rintro _ s276 ⟨rfl, hD⟩
                          replace hR := hR.trans hD.gro
                          replace hH := hH.back0T hD
                          clear hD
                          dsimp only [addC, setC, rmC, selC, getC] at hH
                          try dsimp only [putL, setL, evL, getL]
                          refine HK_readP 32 (v := .int .i64 (IntKind.i64.wrap (u8.2.2.2.1 + u276))) rfl (by kernel_rfl) (fun c l s h => hQp c l s h) (wantT (j := 20) (b := false) (t := 131) (c := !u273) rfl rfl rfl rfl hb274) (fun s' K hK => ?_) rfl rfl (fun _ => hR) ?_
                          · refine o_bin rfl rfl rfl ?_
                            exact hK
                          try dsimp only [putL, setL, evL, getL]
                          refine HK_more [34] (by kernel_rfl) rfl (fun _ => hR) ⟨⟨_, rfl, Or.inl ⟨(wantT (j := 20) (b := false) (t := 131) (c := !u273) rfl rfl rfl rfl hb274), ?_⟩⟩, trivial⟩
                          replace H := headE H
                          obtain ⟨u277, hu277, H⟩ := H
                          skip
                          refine o_call (args := #[.slice A12 u8.2.2.2.2.2.length c12]) Try.func31 rfl rfl rfl (laws_sum.ok s276 s276 no A12 c12 u8.2.2.2.2.2 (hH.rd 3 rfl) (Hp.own (Bs.refl s276)) _ hu277) ?_
                          rintro _ s277 ⟨rfl, hD⟩
                          replace hR := hR.trans hD.gro
                          replace hH := hH.back0T hD
                          clear hD
                          dsimp only [addC, setC, rmC, selC, getC] at hH
                          try dsimp only [putL, setL, evL, getL]
                          refine HK_readP 35 (v := .int .i64 (IntKind.i64.wrap ((IntKind.i64.wrap (u8.2.2.2.1 + u276)) + u277))) rfl (by kernel_rfl) (fun c l s h => hQp c l s h) (wantT (j := 20) (b := false) (t := 131) (c := !u273) rfl rfl rfl rfl hb274) (fun s' K hK => ?_) rfl rfl (fun _ => hR) ?_
                          · refine o_bin rfl rfl rfl ?_
                            exact hK
                          try dsimp only [putL, setL, evL, getL]
                          refine HK_readP 36 (v := .bool ((IntKind.i64.wrap (u16.2.2.2.1 + u275)) != (IntKind.i64.wrap ((IntKind.i64.wrap (u8.2.2.2.1 + u276)) + u277)))) rfl (by kernel_rfl) (fun c l s h => hQp c l s h) (wantT (j := 20) (b := false) (t := 131) (c := !u273) rfl rfl rfl rfl hb274) (fun s' K hK => ?_) rfl rfl (fun _ => hR) ?_
                          · refine o_bin rfl rfl rfl ?_
                            exact hK
                          try dsimp only [putL, setL, evL, getL]
                          refine HK_readP 37 (v := .bool ((IntKind.i64.wrap (u16.2.2.2.1 + u275)) != (IntKind.i64.wrap ((IntKind.i64.wrap (u8.2.2.2.1 + u276)) + u277)))) rfl (by kernel_rfl) (fun c l s h => hQp c l s h) rfl (fun s' K hK => ?_) rfl rfl (fun _ => hR) ?_
                          · refine o_pickF rfl hb274 ?_
                            exact hK
                          try dsimp only [putL, setL, evL, getL]
                          refine HK_readP 38 (v := .bool ((IntKind.i64.wrap (u16.2.2.2.1 + u275)) != (IntKind.i64.wrap ((IntKind.i64.wrap (u8.2.2.2.1 + u276)) + u277)))) rfl (by kernel_rfl) (fun c l s h => hQp c l s h) rfl (fun s' K hK => ?_) rfl rfl (fun _ => hR) ?_
                          · refine o_move ?_
                            exact hK
                          try dsimp only [putL, setL, evL, getL]
                          rcases Bool.eq_false_or_eq_true ((IntKind.i64.wrap (u16.2.2.2.1 + u275)) != (IntKind.i64.wrap ((IntKind.i64.wrap (u8.2.2.2.1 + u276)) + u277))) with hb278 | hb278
                          · replace H := iteT hb278 H
                            refine HK_passP 39 rfl (by kernel_rfl) (fun c l s h => hQp c l s h) ?_ (fun _ => hR) ?_
                            · exact wantF (j := 38) (b := false) (t := 149) (c := (IntKind.i64.wrap (u16.2.2.2.1 + u275)) != (IntKind.i64.wrap ((IntKind.i64.wrap (u8.2.2.2.1 + u276)) + u277))) rfl rfl rfl rfl hb278
                            try dsimp only [putL, setL, evL, getL]
                            refine HK_passP 40 rfl (by kernel_rfl) (fun c l s h => hQp c l s h) ?_ (fun _ => hR) ?_
                            · exact wantF (j := 38) (b := false) (t := 149) (c := (IntKind.i64.wrap (u16.2.2.2.1 + u275)) != (IntKind.i64.wrap ((IntKind.i64.wrap (u8.2.2.2.1 + u276)) + u277))) rfl rfl rfl rfl hb278
                            try dsimp only [putL, setL, evL, getL]
                            refine HK_passP 41 rfl (by kernel_rfl) (fun c l s h => hQp c l s h) ?_ (fun _ => hR) ?_
                            · exact wantF (j := 38) (b := false) (t := 149) (c := (IntKind.i64.wrap (u16.2.2.2.1 + u275)) != (IntKind.i64.wrap ((IntKind.i64.wrap (u8.2.2.2.1 + u276)) + u277))) rfl rfl rfl rfl hb278
                            try dsimp only [putL, setL, evL, getL]
                            refine HK_passP 42 rfl (by kernel_rfl) (fun c l s h => hQp c l s h) ?_ (fun _ => hR) ?_
                            · exact wantF (j := 38) (b := false) (t := 149) (c := (IntKind.i64.wrap (u16.2.2.2.1 + u275)) != (IntKind.i64.wrap ((IntKind.i64.wrap (u8.2.2.2.1 + u276)) + u277))) rfl rfl rfl rfl hb278
                            try dsimp only [putL, setL, evL, getL]
                            refine HK_passP 43 rfl (by kernel_rfl) (fun c l s h => hQp c l s h) ?_ (fun _ => hR) ?_
                            · exact wantF (j := 38) (b := false) (t := 149) (c := (IntKind.i64.wrap (u16.2.2.2.1 + u275)) != (IntKind.i64.wrap ((IntKind.i64.wrap (u8.2.2.2.1 + u276)) + u277))) rfl rfl rfl rfl hb278
                            try dsimp only [putL, setL, evL, getL]
                            refine HK_passP 44 rfl (by kernel_rfl) (fun c l s h => hQp c l s h) ?_ (fun _ => hR) ?_
                            · exact wantF (j := 38) (b := false) (t := 149) (c := (IntKind.i64.wrap (u16.2.2.2.1 + u275)) != (IntKind.i64.wrap ((IntKind.i64.wrap (u8.2.2.2.1 + u276)) + u277))) rfl rfl rfl rfl hb278
                            try dsimp only [putL, setL, evL, getL]
                            refine HK_readP 45 (v := .bool true) rfl (by kernel_rfl) (fun c l s h => hQp c l s h) rfl (fun s' K hK => ?_) rfl rfl (fun _ => hR) ?_
                            · refine o_pickT rfl hb278 ?_
                              exact hK
                            try dsimp only [putL, setL, evL, getL]
                            refine HK_done (fun _ => hR) (by kernel_rfl) ?_
                            exact hK255 _ _ ⟨true, H, rfl, hH.sel [] (by decide)⟩
                          · replace H := iteF hb278 H
                            refine HK_readP 39 (v := .pointer (some ⟨b20, 0 + 1, none⟩)) rfl (by kernel_rfl) (fun c l s h => hQp c l s h) (wantT (j := 38) (b := false) (t := 149) (c := (IntKind.i64.wrap (u16.2.2.2.1 + u275)) != (IntKind.i64.wrap ((IntKind.i64.wrap (u8.2.2.2.1 + u276)) + u277))) rfl rfl rfl rfl hb278) (fun s' K hK => ?_) rfl rfl (fun _ => hR) ?_
                            · refine o_faddr' (ft := 24) (off := 1) rfl Try.underlying37 rfl tI24 (by decide) ?_
                              exact hK
                            try dsimp only [putL, setL, evL, getL]
                            refine HK_read 40 (v := .slice A17 u16.2.1.length c17) rfl (by kernel_rfl) (fun c l s h => hQp c l s h) (wantT (j := 38) (b := false) (t := 149) (c := (IntKind.i64.wrap (u16.2.2.2.1 + u275)) != (IntKind.i64.wrap ((IntKind.i64.wrap (u8.2.2.2.1 + u276)) + u277))) rfl rfl rfl rfl hb278) (fun s' hR' K hK => ?_) rfl rfl hR ?_
                            · refine o_load' rfl Try.underlying24 rfl (has_gro hR' (hH0.hasv 11 rfl rfl)) ?_
                              exact hK
                            try dsimp only [putL, setL, evL, getL]
                            refine HK_readP 41 (v := .int .i64 (u16.2.1.length : Int)) rfl (by kernel_rfl) (fun c l s h => hQp c l s h) (wantT (j := 38) (b := false) (t := 149) (c := (IntKind.i64.wrap (u16.2.2.2.1 + u275)) != (IntKind.i64.wrap ((IntKind.i64.wrap (u8.2.2.2.1 + u276)) + u277))) rfl rfl rfl rfl hb278) (fun s' K hK => ?_) rfl rfl (fun _ => hR) ?_
                            · refine o_len rfl Try.underlying24 ?_
                              exact hK
                            try dsimp only [putL, setL, evL, getL]
                            refine HK_readP 42 (v := .pointer (some ⟨b20, 0 + 0, none⟩)) rfl (by kernel_rfl) (fun c l s h => hQp c l s h) (wantT (j := 38) (b := false) (t := 149) (c := (IntKind.i64.wrap (u16.2.2.2.1 + u275)) != (IntKind.i64.wrap ((IntKind.i64.wrap (u8.2.2.2.1 + u276)) + u277))) rfl rfl rfl rfl hb278) (fun s' K hK => ?_) rfl rfl (fun _ => hR) ?_
                            · refine o_faddr' (ft := 3) (off := 0) rfl Try.underlying37 rfl tI3 (by decide) ?_
                              exact hK
                            try dsimp only [putL, setL, evL, getL]
                            refine HK_read 43 (v := .int .i64 u16.1) rfl (by kernel_rfl) (fun c l s h => hQp c l s h) (wantT (j := 38) (b := false) (t := 149) (c := (IntKind.i64.wrap (u16.2.2.2.1 + u275)) != (IntKind.i64.wrap ((IntKind.i64.wrap (u8.2.2.2.1 + u276)) + u277))) rfl rfl rfl rfl hb278) (fun s' hR' K hK => ?_) rfl rfl hR ?_
                            · refine o_load' rfl Try.underlying3 rfl (has_gro hR' (hH0.hasv 11 rfl rfl)) ?_
                              exact hK
                            try dsimp only [putL, setL, evL, getL]
                            refine HK_readP 44 (v := .bool (decide ((u16.2.1.length : Int) > u16.1))) rfl (by kernel_rfl) (fun c l s h => hQp c l s h) (wantT (j := 38) (b := false) (t := 149) (c := (IntKind.i64.wrap (u16.2.2.2.1 + u275)) != (IntKind.i64.wrap ((IntKind.i64.wrap (u8.2.2.2.1 + u276)) + u277))) rfl rfl rfl rfl hb278) (fun s' K hK => ?_) rfl rfl (fun _ => hR) ?_
                            · refine o_bin rfl rfl rfl ?_
                              exact hK
                            try dsimp only [putL, setL, evL, getL]
                            refine HK_readP 45 (v := .bool (decide ((u16.2.1.length : Int) > u16.1))) rfl (by kernel_rfl) (fun c l s h => hQp c l s h) rfl (fun s' K hK => ?_) rfl rfl (fun _ => hR) ?_
                            · refine o_pickF rfl hb278 ?_
                              exact hK
                            try dsimp only [putL, setL, evL, getL]
                            refine HK_done (fun _ => hR) (by kernel_rfl) ?_
                            exact hK255 _ _ ⟨decide ((u16.2.1.length : Int) > u16.1), H, rfl, hH.sel [] (by decide)⟩
                · rintro l' s279 ⟨x267, H, hl, hH⟩
                  generalize getL l' 111 = j111, getL l' 112 = j112, getL l' 113 = j113, getL l' 114 = j114, getL l' 115 = j115, getL l' 116 = j116, getL l' 117 = j117, getL l' 118 = j118, getL l' 119 = j119, getL l' 120 = j120, getL l' 121 = j121, getL l' 122 = j122, getL l' 123 = j123, getL l' 124 = j124, getL l' 125 = j125, getL l' 126 = j126, getL l' 127 = j127, getL l' 128 = j128, getL l' 129 = j129, getL l' 130 = j130, getL l' 131 = j131, getL l' 132 = j132, getL l' 133 = j133, getL l' 134 = j134, getL l' 135 = j135, getL l' 136 = j136, getL l' 137 = j137, getL l' 138 = j138, getL l' 139 = j139, getL l' 140 = j140, getL l' 141 = j141, getL l' 142 = j142, getL l' 143 = j143, getL l' 144 = j144, getL l' 145 = j145, getL l' 146 = j146, getL l' 147 = j147, getL l' 148 = j148, getL l' 149 = j149, getL l' 150 = j150, getL l' 151 = j151, getL l' 152 = j152, getL l' 153 = j153, getL l' 154 = j154, getL l' 155 = j155 at hl
                  subst hl
                  replace H := hG255 _ H
                  try dsimp only at H
                  rcases Bool.eq_false_or_eq_true x267 with hb280 | hb280
                  · replace H := iteT hb280 H
                    refine HT_true (congrArg Value.bool hb280) ?_
                    refine HT_seq_k ?_
                    intro K281 hK281
                    refine HT_region ?_
                    refine HL_cons rfl ?_
                    refine o_assign ?_
                    try dsimp only [putL, setL, evL, getL]
                    refine HL_nil ?_
                    refine hK281 _ _ ?_
                    refine HT_ret ?_
                    replace H := escH (fun z hz => hG69 _ hz) H
                    exact hQr _ _ [.bool false] ⟨rfl, trivial⟩ (retH (fun r => laws_FnBuffer.post sb s F0 r _ _) (show some _ = some r from H) ⟨rfl, hH⟩)
                  · replace H := iteF hb280 H
                    refine HT_false (congrArg Value.bool hb280) ?_
                    refine HT_skip ?_
                    exact hK69 _ _ ⟨H, rfl, hH⟩
          · replace H := iteF hb177 H
            refine HT_false (congrArg Value.bool hb177) ?_
            refine HT_skip ?_
            exact hK69 _ _ ⟨H, rfl, hH.sel [] (by decide)⟩
        · rintro l' s282 ⟨H, hl, hH⟩
          generalize getL l' 4 = j4, getL l' 14 = j14, getL l' 15 = j15, getL l' 16 = j16, getL l' 17 = j17, getL l' 18 = j18, getL l' 19 = j19, getL l' 20 = j20, getL l' 80 = j80, getL l' 81 = j81, getL l' 82 = j82, getL l' 83 = j83, getL l' 84 = j84, getL l' 85 = j85, getL l' 86 = j86, getL l' 87 = j87, getL l' 88 = j88, getL l' 89 = j89, getL l' 90 = j90, getL l' 91 = j91, getL l' 92 = j92, getL l' 93 = j93, getL l' 94 = j94, getL l' 95 = j95, getL l' 96 = j96, getL l' 97 = j97, getL l' 98 = j98, getL l' 99 = j99, getL l' 100 = j100, getL l' 101 = j101, getL l' 102 = j102, getL l' 103 = j103, getL l' 104 = j104, getL l' 105 = j105, getL l' 106 = j106, getL l' 107 = j107, getL l' 108 = j108, getL l' 109 = j109, getL l' 110 = j110, getL l' 111 = j111, getL l' 112 = j112, getL l' 113 = j113, getL l' 114 = j114, getL l' 115 = j115, getL l' 116 = j116, getL l' 117 = j117, getL l' 118 = j118, getL l' 119 = j119, getL l' 120 = j120, getL l' 121 = j121, getL l' 122 = j122, getL l' 123 = j123, getL l' 124 = j124, getL l' 125 = j125, getL l' 126 = j126, getL l' 127 = j127, getL l' 128 = j128, getL l' 129 = j129, getL l' 130 = j130, getL l' 131 = j131, getL l' 132 = j132, getL l' 133 = j133, getL l' 134 = j134, getL l' 135 = j135, getL l' 136 = j136, getL l' 137 = j137, getL l' 138 = j138, getL l' 139 = j139, getL l' 140 = j140, getL l' 141 = j141, getL l' 142 = j142, getL l' 143 = j143, getL l' 144 = j144, getL l' 145 = j145, getL l' 146 = j146, getL l' 147 = j147, getL l' 148 = j148, getL l' 149 = j149, getL l' 150 = j150, getL l' 151 = j151, getL l' 152 = j152, getL l' 153 = j153, getL l' 154 = j154, getL l' 155 = j155, getL l' 156 = j156 at hl
          subst hl
          replace H := hG69 _ H
          try dsimp only at H
          refine HT_seq_k ?_
          intro K283 hK283
          refine HT_region ?_
          refine HL_cons rfl ?_
          refine o_move ?_
          try dsimp only [putL, setL, evL, getL]
          replace H := headE H
          obtain ⟨u284, hu284, H⟩ := H
          refine HL_cons rfl ?_
          refine o_call (args := #[.slice A1p p1.length c1p]) Try.func32 rfl rfl rfl (spec_DrawTakeBuf.ok sb s282 no A1p c1p p1 HRp1 (Hp.own hH.bs) _ hu284) ?_
          rintro _ s284 ⟨A285, c285, A286, c286, rfl, hD⟩
          replace hH := hH.back0 hD (Up.refl _ _ _)
          clear hD
          dsimp only [addC, setC, rmC, selC, getC] at hH
          try dsimp only [putL, setL, evL, getL]
          refine HL_cons rfl ?_
          refine o_move ?_
          try dsimp only [putL, setL, evL, getL]
          refine HL_cons rfl ?_
          refine o_extract rfl rfl ?_
          try dsimp only [putL, setL, evL, getL]
          refine HL_cons rfl ?_
          refine o_extract rfl rfl ?_
          try dsimp only [putL, setL, evL, getL]
          refine HL_cons rfl ?_
          refine o_allocH hH tI37 ?_
          intro b287 s287 hH' hG
          replace hH : Hp sb s F0 s287 [Ck.ol OI 3 A285 c285 u284.2.1, Ck.ol OI 3 A286 c286 u284.2.2.1, Ck.ov b287 [.int .i64 0, .slice none 0 0, .slice none 0 0, .int .i64 0] 37] := hH'
          clear hH' hG
          try dsimp only [putL, setL, evL, getL]
          refine HL_cons rfl ?_
          refine o_stvH (vs := [.int .i64 u284.1, .slice A285 u284.2.1.length c285, .slice A286 u284.2.2.1.length c286, .int .i64 u284.2.2.2.1]) (us' := [.int .i64 u284.1, .slice A285 u284.2.1.length c285, .slice A286 u284.2.2.1.length c286, .int .i64 u284.2.2.2.1]) hH 2 rfl rfl rfl rfl rfl tI37 rfl (List.cons_ne_nil _ _) rfl rfl rfl ?_
          intro s288 hH'
          replace hH : Hp sb s F0 s288 [Ck.ol OI 3 A285 c285 u284.2.1, Ck.ol OI 3 A286 c286 u284.2.2.1, Ck.ov b287 [.int .i64 u284.1, .slice A285 u284.2.1.length c285, .slice A286 u284.2.2.1.length c286, .int .i64 u284.2.2.2.1] 37] := hH'
          clear hH'
          try dsimp only [putL, setL, evL, getL]
          refine HL_cons rfl ?_
          refine o_assign ?_
          try dsimp only [putL, setL, evL, getL]
          refine HL_nil ?_
          refine hK283 _ _ ?_
          refine HT_seq_k ?_
          intro K289 hK289
          refine HT_region ?_
          refine HL_cons rfl ?_
          refine o_loads' [.int .i64 u284.1, .slice A285 u284.2.1.length c285, .slice A286 u284.2.2.1.length c286, .int .i64 u284.2.2.2.1] rfl Try.underlying37 rfl tI37 rfl (hH.partv 2 rfl (0) [.int .i64 u284.1, .slice A285 u284.2.1.length c285, .slice A286 u284.2.2.1.length c286, .int .i64 u284.2.2.2.1] rfl) ?_
          try dsimp only [putL, setL, evL, getL]
          refine HL_cons rfl ?_
          refine o_move ?_
          try dsimp only [putL, setL, evL, getL]
          replace H := headE H
          obtain ⟨u290, hu290, H⟩ := H
          refine HL_cons rfl ?_
          refine o_call (args := #[.agg #[.int .i64 u284.1, .slice A285 u284.2.1.length c285, .slice A286 u284.2.2.1.length c286, .int .i64 u284.2.2.2.1], .int .i64 u284.2.2.2.2]) Try.func33 rfl rfl rfl (impl_TakeBuf.ok s288 s288 no u284.1 A285 c285 u284.2.1 A286 c286 u284.2.2.1 u284.2.2.2.1 u284.2.2.2.2 (hH.rd 0 rfl) (hH.rd 1 rfl) (Hp.own (Bs.refl s288)) _ hu290) ?_
          rintro _ s290 ⟨A291, c291, A292, c292, A293, c293, rfl, hD⟩
          replace hH := hH.back0T hD
          clear hD
          dsimp only [addC, setC, rmC, selC, getC] at hH
          try dsimp only [putL, setL, evL, getL]
          refine HL_cons rfl ?_
          refine o_move ?_
          try dsimp only [putL, setL, evL, getL]
          refine HL_cons rfl ?_
          refine o_extract rfl rfl ?_
          try dsimp only [putL, setL, evL, getL]
          refine HL_cons rfl ?_
          refine o_extract rfl rfl ?_
          try dsimp only [putL, setL, evL, getL]
          refine HL_cons rfl ?_
          refine o_extract rfl rfl ?_
          try dsimp only [putL, setL, evL, getL]
          refine HL_cons rfl ?_
          refine o_allocH hH tI37 ?_
          intro b294 s294 hH' hG
          replace hH : Hp sb s F0 s294 [Ck.ol OI 3 A285 c285 u284.2.1, Ck.ol OI 3 A286 c286 u284.2.2.1, Ck.ov b287 [.int .i64 u284.1, .slice A285 u284.2.1.length c285, .slice A286 u284.2.2.1.length c286, .int .i64 u284.2.2.2.1] 37, Ck.ol OI 3 A291 c291 u290.2.1, Ck.ol OI 3 A292 c292 u290.2.2.1, Ck.ol OI 3 A293 c293 u290.2.2.2.2.1, Ck.ov b294 [.int .i64 0, .slice none 0 0, .slice none 0 0, .int .i64 0] 37] := hH'
          clear hH' hG
          try dsimp only [putL, setL, evL, getL]
          refine HL_cons rfl ?_
          refine o_stvH (vs := [.int .i64 u290.1, .slice A291 u290.2.1.length c291, .slice A292 u290.2.2.1.length c292, .int .i64 u290.2.2.2.1]) (us' := [.int .i64 u290.1, .slice A291 u290.2.1.length c291, .slice A292 u290.2.2.1.length c292, .int .i64 u290.2.2.2.1]) hH 6 rfl rfl rfl rfl rfl tI37 rfl (List.cons_ne_nil _ _) rfl rfl rfl ?_
          intro s295 hH'
          replace hH : Hp sb s F0 s295 [Ck.ol OI 3 A285 c285 u284.2.1, Ck.ol OI 3 A286 c286 u284.2.2.1, Ck.ov b287 [.int .i64 u284.1, .slice A285 u284.2.1.length c285, .slice A286 u284.2.2.1.length c286, .int .i64 u284.2.2.2.1] 37, Ck.ol OI 3 A291 c291 u290.2.1, Ck.ol OI 3 A292 c292 u290.2.2.1, Ck.ol OI 3 A293 c293 u290.2.2.2.2.1, Ck.ov b294 [.int .i64 u290.1, .slice A291 u290.2.1.length c291, .slice A292 u290.2.2.1.length c292, .int .i64 u290.2.2.2.1] 37] := hH'
          clear hH'
          try dsimp only [putL, setL, evL, getL]
          refine HL_cons rfl ?_
          refine o_assign ?_
          try dsimp only [putL, setL, evL, getL]
          refine HL_cons rfl ?_
          refine o_assign ?_
          try dsimp only [putL, setL, evL, getL]
          refine HL_nil ?_
          refine hK289 _ _ ?_
          refine HT_seq_k ?_
          intro K296 hK296
          refine HT_region ?_
          refine HL_cons rfl ?_
          refine o_loads' [.int .i64 u284.1, .slice A285 u284.2.1.length c285, .slice A286 u284.2.2.1.length c286, .int .i64 u284.2.2.2.1] rfl Try.underlying37 rfl tI37 rfl (hH.partv 2 rfl (0) [.int .i64 u284.1, .slice A285 u284.2.1.length c285, .slice A286 u284.2.2.1.length c286, .int .i64 u284.2.2.2.1] rfl) ?_
          try dsimp only [putL, setL, evL, getL]
          refine HL_cons rfl ?_
          refine o_move ?_
          try dsimp only [putL, setL, evL, getL]
          replace H := headE H
          obtain ⟨u297, hu297, H⟩ := H
          refine HL_cons rfl ?_
          refine o_call (args := #[.agg #[.int .i64 u284.1, .slice A285 u284.2.1.length c285, .slice A286 u284.2.2.1.length c286, .int .i64 u284.2.2.2.1], .int .i64 u284.2.2.2.2]) Try.func34 rfl rfl rfl (spec_TakeBuf.ok s295 s295 no u284.1 A285 c285 u284.2.1 A286 c286 u284.2.2.1 u284.2.2.2.1 u284.2.2.2.2 (hH.rd 0 rfl) (hH.rd 1 rfl) (Hp.own (Bs.refl s295)) _ hu297) ?_
          rintro _ s297 ⟨A298, c298, A299, c299, A300, c300, rfl, hD⟩
          replace hH := hH.back0T hD
          clear hD
          dsimp only [addC, setC, rmC, selC, getC] at hH
          try dsimp only [putL, setL, evL, getL]
          refine HL_cons rfl ?_
          refine o_move ?_
          try dsimp only [putL, setL, evL, getL]
          refine HL_cons rfl ?_
          refine o_extract rfl rfl ?_
          try dsimp only [putL, setL, evL, getL]
          refine HL_cons rfl ?_
          refine o_extract rfl rfl ?_
          try dsimp only [putL, setL, evL, getL]
          refine HL_cons rfl ?_
          refine o_extract rfl rfl ?_
          try dsimp only [putL, setL, evL, getL]
          refine HL_cons rfl ?_
          refine o_allocH hH tI37 ?_
          intro b301 s301 hH' hG
          replace hH : Hp sb s F0 s301 [Ck.ol OI 3 A285 c285 u284.2.1, Ck.ol OI 3 A286 c286 u284.2.2.1, Ck.ov b287 [.int .i64 u284.1, .slice A285 u284.2.1.length c285, .slice A286 u284.2.2.1.length c286, .int .i64 u284.2.2.2.1] 37, Ck.ol OI 3 A291 c291 u290.2.1, Ck.ol OI 3 A292 c292 u290.2.2.1, Ck.ol OI 3 A293 c293 u290.2.2.2.2.1, Ck.ov b294 [.int .i64 u290.1, .slice A291 u290.2.1.length c291, .slice A292 u290.2.2.1.length c292, .int .i64 u290.2.2.2.1] 37, Ck.ol OI 3 A298 c298 u297.2.1, Ck.ol OI 3 A299 c299 u297.2.2.1, Ck.ol OI 3 A300 c300 u297.2.2.2.2.1, Ck.ov b301 [.int .i64 0, .slice none 0 0, .slice none 0 0, .int .i64 0] 37] := hH'
          clear hH' hG
          try dsimp only [putL, setL, evL, getL]
          refine HL_cons rfl ?_
          refine o_stvH (vs := [.int .i64 u297.1, .slice A298 u297.2.1.length c298, .slice A299 u297.2.2.1.length c299, .int .i64 u297.2.2.2.1]) (us' := [.int .i64 u297.1, .slice A298 u297.2.1.length c298, .slice A299 u297.2.2.1.length c299, .int .i64 u297.2.2.2.1]) hH 10 rfl rfl rfl rfl rfl tI37 rfl (List.cons_ne_nil _ _) rfl rfl rfl ?_
          intro s302 hH'
          replace hH : Hp sb s F0 s302 [Ck.ol OI 3 A285 c285 u284.2.1, Ck.ol OI 3 A286 c286 u284.2.2.1, Ck.ov b287 [.int .i64 u284.1, .slice A285 u284.2.1.length c285, .slice A286 u284.2.2.1.length c286, .int .i64 u284.2.2.2.1] 37, Ck.ol OI 3 A291 c291 u290.2.1, Ck.ol OI 3 A292 c292 u290.2.2.1, Ck.ol OI 3 A293 c293 u290.2.2.2.2.1, Ck.ov b294 [.int .i64 u290.1, .slice A291 u290.2.1.length c291, .slice A292 u290.2.2.1.length c292, .int .i64 u290.2.2.2.1] 37, Ck.ol OI 3 A298 c298 u297.2.1, Ck.ol OI 3 A299 c299 u297.2.2.1, Ck.ol OI 3 A300 c300 u297.2.2.2.2.1, Ck.ov b301 [.int .i64 u297.1, .slice A298 u297.2.1.length c298, .slice A299 u297.2.2.1.length c299, .int .i64 u297.2.2.2.1] 37] := hH'
          clear hH'
          try dsimp only [putL, setL, evL, getL]
          refine HL_cons rfl ?_
          refine o_assign ?_
          try dsimp only [putL, setL, evL, getL]
          refine HL_cons rfl ?_
          refine o_assign ?_
          try dsimp only [putL, setL, evL, getL]
          refine HL_nil ?_
          refine hK296 _ _ ?_
          refine HT_seq_k ?_
          intro K303 hK303
          refine HT_region ?_
          refine HL_cons rfl ?_
          refine o_loads' [.int .i64 u284.1, .slice A285 u284.2.1.length c285, .slice A286 u284.2.2.1.length c286, .int .i64 u284.2.2.2.1] rfl Try.underlying37 rfl tI37 rfl (hH.partv 2 rfl (0) [.int .i64 u284.1, .slice A285 u284.2.1.length c285, .slice A286 u284.2.2.1.length c286, .int .i64 u284.2.2.2.1] rfl) ?_
          try dsimp only [putL, setL, evL, getL]
          refine HL_cons rfl ?_
          refine o_move ?_
          try dsimp only [putL, setL, evL, getL]
          replace H := headE H
          obtain ⟨u304, hu304, H⟩ := H
          refine HL_cons rfl ?_
          refine o_call (args := #[.agg #[.int .i64 u284.1, .slice A285 u284.2.1.length c285, .slice A286 u284.2.2.1.length c286, .int .i64 u284.2.2.2.1], .int .i64 u284.2.2.2.2]) Try.func35 rfl rfl rfl (impl_ByteOf.ok s302 s302 no u284.1 A285 c285 u284.2.1 A286 c286 u284.2.2.1 u284.2.2.2.1 u284.2.2.2.2 (hH.rd 0 rfl) (hH.rd 1 rfl) (Hp.own (Bs.refl s302)) _ hu304) ?_
          rintro _ s304 ⟨rfl, hD⟩
          replace hH := hH.back0T hD
          clear hD
          dsimp only [addC, setC, rmC, selC, getC] at hH
          try dsimp only [putL, setL, evL, getL]
          refine HL_cons rfl ?_
          refine o_move ?_
          try dsimp only [putL, setL, evL, getL]
          refine HL_cons rfl ?_
          refine o_extract rfl rfl ?_
          try dsimp only [putL, setL, evL, getL]
          refine HL_cons rfl ?_
          refine o_extract rfl rfl ?_
          try dsimp only [putL, setL, evL, getL]
          refine HL_cons rfl ?_
          refine o_assign ?_
          try dsimp only [putL, setL, evL, getL]
          refine HL_cons rfl ?_
          refine o_assign ?_
          try dsimp only [putL, setL, evL, getL]
          refine HL_nil ?_
          refine hK303 _ _ ?_
          refine HT_seq_k ?_
          intro K305 hK305
          refine HT_region ?_
          refine HL_cons rfl ?_
          refine o_loads' [.int .i64 u284.1, .slice A285 u284.2.1.length c285, .slice A286 u284.2.2.1.length c286, .int .i64 u284.2.2.2.1] rfl Try.underlying37 rfl tI37 rfl (hH.partv 2 rfl (0) [.int .i64 u284.1, .slice A285 u284.2.1.length c285, .slice A286 u284.2.2.1.length c286, .int .i64 u284.2.2.2.1] rfl) ?_
          try dsimp only [putL, setL, evL, getL]
          refine HL_cons rfl ?_
          refine o_move ?_
          try dsimp only [putL, setL, evL, getL]
          replace H := headE H
          obtain ⟨u306, hu306, H⟩ := H
          refine HL_cons rfl ?_
          refine o_call (args := #[.agg #[.int .i64 u284.1, .slice A285 u284.2.1.length c285, .slice A286 u284.2.2.1.length c286, .int .i64 u284.2.2.2.1], .int .i64 u284.2.2.2.2]) Try.func36 rfl rfl rfl (spec_ByteOf.ok s304 s304 no u284.1 A285 c285 u284.2.1 A286 c286 u284.2.2.1 u284.2.2.2.1 u284.2.2.2.2 (hH.rd 0 rfl) (hH.rd 1 rfl) (Hp.own (Bs.refl s304)) _ hu306) ?_
          rintro _ s306 ⟨rfl, hD⟩
          replace hH := hH.back0T hD
          clear hD
          dsimp only [addC, setC, rmC, selC, getC] at hH
          try dsimp only [putL, setL, evL, getL]
          refine HL_cons rfl ?_
          refine o_move ?_
          try dsimp only [putL, setL, evL, getL]
          refine HL_cons rfl ?_
          refine o_extract rfl rfl ?_
          try dsimp only [putL, setL, evL, getL]
          refine HL_cons rfl ?_
          refine o_extract rfl rfl ?_
          try dsimp only [putL, setL, evL, getL]
          refine HL_cons rfl ?_
          refine o_assign ?_
          try dsimp only [putL, setL, evL, getL]
          refine HL_cons rfl ?_
          refine o_assign ?_
          try dsimp only [putL, setL, evL, getL]
          refine HL_nil ?_
          refine hK305 _ _ ?_
          refine HT_seq_k ?_
          intro K325 hK325
          refine joinH H fun G326 hG326 H => ?_
          refine HT_joinK (fun l' s' => ∃ (x333 : Bool), G326 x333 = some r ∧ l' = [.slice A0p p0.length c0p, .slice A1p p1.length c1p, undef, undef, j4, .pointer (some ⟨b13, 0, none⟩), .slice A11 u8.2.2.2.2.1.length c11, .slice A12 u8.2.2.2.2.2.length c12, .pointer (some ⟨b20, 0, none⟩), .slice A19 u16.2.2.2.2.1.length c19, .bool u16.2.2.2.2.2, .pointer (some ⟨b27, 0, none⟩), .slice A26 u23.2.2.2.2.1.length c26, .bool u23.2.2.2.2.2, j14, j15, j16, j17, j18, j19, j20, .pointer (some ⟨b287, 0, none⟩), .int .i64 u284.2.2.2.2, .pointer (some ⟨b294, 0, none⟩), .slice A293 u290.2.2.2.2.1.length c293, .bool u290.2.2.2.2.2, .pointer (some ⟨b301, 0, none⟩), .slice A300 u297.2.2.2.2.1.length c300, .bool u297.2.2.2.2.2, .int .i64 u304.1, .bool u304.2, .int .i64 u306.1, .bool u306.2, .slice A0p p0.length c0p, .slice A1p p1.length c1p, .bool u4, .tuple #[.agg #[.int .i64 u8.1, .slice A9 u8.2.1.length c9, .slice A10 u8.2.2.1.length c10, .int .i64 u8.2.2.2.1], .slice A11 u8.2.2.2.2.1.length c11, .slice A12 u8.2.2.2.2.2.length c12], .slice A0p p0.length c0p, .tuple #[.agg #[.int .i64 u8.1, .slice A9 u8.2.1.length c9, .slice A10 u8.2.2.1.length c10, .int .i64 u8.2.2.2.1], .slice A11 u8.2.2.2.2.1.length c11, .slice A12 u8.2.2.2.2.2.length c12], .agg #[.int .i64 u8.1, .slice A9 u8.2.1.length c9, .slice A10 u8.2.2.1.length c10, .int .i64 u8.2.2.2.1], .slice A11 u8.2.2.2.2.1.length c11, .slice A12 u8.2.2.2.2.2.length c12, .tuple #[.agg #[.int .i64 u16.1, .slice A17 u16.2.1.length c17, .slice A18 u16.2.2.1.length c18, .int .i64 u16.2.2.2.1], .slice A19 u16.2.2.2.2.1.length c19, .bool u16.2.2.2.2.2], .agg #[.int .i64 u8.1, .slice A9 u8.2.1.length c9, .slice A10 u8.2.2.1.length c10, .int .i64 u8.2.2.2.1], .slice A11 u8.2.2.2.2.1.length c11, .slice A12 u8.2.2.2.2.2.length c12, .tuple #[.agg #[.int .i64 u16.1, .slice A17 u16.2.1.length c17, .slice A18 u16.2.2.1.length c18, .int .i64 u16.2.2.2.1], .slice A19 u16.2.2.2.2.1.length c19, .bool u16.2.2.2.2.2], .agg #[.int .i64 u16.1, .slice A17 u16.2.1.length c17, .slice A18 u16.2.2.1.length c18, .int .i64 u16.2.2.2.1], .slice A19 u16.2.2.2.2.1.length c19, .bool u16.2.2.2.2.2, .tuple #[.agg #[.int .i64 u23.1, .slice A24 u23.2.1.length c24, .slice A25 u23.2.2.1.length c25, .int .i64 u23.2.2.2.1], .slice A26 u23.2.2.2.2.1.length c26, .bool u23.2.2.2.2.2], .agg #[.int .i64 u8.1, .slice A9 u8.2.1.length c9, .slice A10 u8.2.2.1.length c10, .int .i64 u8.2.2.2.1], .slice A11 u8.2.2.2.2.1.length c11, .slice A12 u8.2.2.2.2.2.length c12, .tuple #[.agg #[.int .i64 u23.1, .slice A24 u23.2.1.length c24, .slice A25 u23.2.2.1.length c25, .int .i64 u23.2.2.2.1], .slice A26 u23.2.2.2.2.1.length c26, .bool u23.2.2.2.2.2], .agg #[.int .i64 u23.1, .slice A24 u23.2.1.length c24, .slice A25 u23.2.2.1.length c25, .int .i64 u23.2.2.2.1], .slice A26 u23.2.2.2.2.1.length c26, .bool u23.2.2.2.2.2, j58, j59, j60, j61, j62, j63, j64, j65, j66, j67, j68, j69, j70, j71, j72, j73, j74, j75, j76, j77, j78, .bool x58, j80, j81, j82, j83, j84, j85, j86, j87, j88, j89, j90, j91, j92, j93, j94, j95, j96, j97, j98, j99, j100, j101, j102, j103, j104, j105, j106, j107, j108, j109, j110, j111, j112, j113, j114, j115, j116, j117, j118, j119, j120, j121, j122, j123, j124, j125, j126, j127, j128, j129, j130, j131, j132, j133, j134, j135, j136, j137, j138, j139, j140, j141, j142, j143, j144, j145, j146, j147, j148, j149, j150, j151, j152, j153, j154, j155, j156, .tuple #[.agg #[.int .i64 u284.1, .slice A285 u284.2.1.length c285, .slice A286 u284.2.2.1.length c286, .int .i64 u284.2.2.2.1], .int .i64 u284.2.2.2.2], .slice A1p p1.length c1p, .tuple #[.agg #[.int .i64 u284.1, .slice A285 u284.2.1.length c285, .slice A286 u284.2.2.1.length c286, .int .i64 u284.2.2.2.1], .int .i64 u284.2.2.2.2], .agg #[.int .i64 u284.1, .slice A285 u284.2.1.length c285, .slice A286 u284.2.2.1.length c286, .int .i64 u284.2.2.2.1], .int .i64 u284.2.2.2.2, .tuple #[.agg #[.int .i64 u290.1, .slice A291 u290.2.1.length c291, .slice A292 u290.2.2.1.length c292, .int .i64 u290.2.2.2.1], .slice A293 u290.2.2.2.2.1.length c293, .bool u290.2.2.2.2.2], .agg #[.int .i64 u284.1, .slice A285 u284.2.1.length c285, .slice A286 u284.2.2.1.length c286, .int .i64 u284.2.2.2.1], .int .i64 u284.2.2.2.2, .tuple #[.agg #[.int .i64 u290.1, .slice A291 u290.2.1.length c291, .slice A292 u290.2.2.1.length c292, .int .i64 u290.2.2.2.1], .slice A293 u290.2.2.2.2.1.length c293, .bool u290.2.2.2.2.2], .agg #[.int .i64 u290.1, .slice A291 u290.2.1.length c291, .slice A292 u290.2.2.1.length c292, .int .i64 u290.2.2.2.1], .slice A293 u290.2.2.2.2.1.length c293, .bool u290.2.2.2.2.2, .tuple #[.agg #[.int .i64 u297.1, .slice A298 u297.2.1.length c298, .slice A299 u297.2.2.1.length c299, .int .i64 u297.2.2.2.1], .slice A300 u297.2.2.2.2.1.length c300, .bool u297.2.2.2.2.2], .agg #[.int .i64 u284.1, .slice A285 u284.2.1.length c285, .slice A286 u284.2.2.1.length c286, .int .i64 u284.2.2.2.1], .int .i64 u284.2.2.2.2, .tuple #[.agg #[.int .i64 u297.1, .slice A298 u297.2.1.length c298, .slice A299 u297.2.2.1.length c299, .int .i64 u297.2.2.2.1], .slice A300 u297.2.2.2.2.1.length c300, .bool u297.2.2.2.2.2], .agg #[.int .i64 u297.1, .slice A298 u297.2.1.length c298, .slice A299 u297.2.2.1.length c299, .int .i64 u297.2.2.2.1], .slice A300 u297.2.2.2.2.1.length c300, .bool u297.2.2.2.2.2, .tuple #[.int .i64 u304.1, .bool u304.2], .agg #[.int .i64 u284.1, .slice A285 u284.2.1.length c285, .slice A286 u284.2.2.1.length c286, .int .i64 u284.2.2.2.1], .int .i64 u284.2.2.2.2, .tuple #[.int .i64 u304.1, .bool u304.2], .int .i64 u304.1, .bool u304.2, .tuple #[.int .i64 u306.1, .bool u306.2], .agg #[.int .i64 u284.1, .slice A285 u284.2.1.length c285, .slice A286 u284.2.2.1.length c286, .int .i64 u284.2.2.2.1], .int .i64 u284.2.2.2.2, .tuple #[.int .i64 u306.1, .bool u306.2], .int .i64 u306.1, .bool u306.2, getL l' 188, getL l' 189, getL l' 190, getL l' 191, getL l' 192, getL l' 193, getL l' 194, getL l' 195, getL l' 196, getL l' 197, getL l' 198, getL l' 199, getL l' 200, getL l' 201, getL l' 202, getL l' 203, getL l' 204, getL l' 205, getL l' 206, getL l' 207, getL l' 208, getL l' 209, getL l' 210, getL l' 211, .bool x333, undef, undef, undef, undef, undef, undef, undef, undef, undef, undef, undef, undef, undef, undef, undef, undef, undef] ∧ Hp sb s F0 s' [Ck.ol OI 3 A293 c293 u290.2.2.2.2.1, Ck.ol OI 3 A291 c291 u290.2.1, Ck.ol OI 3 A292 c292 u290.2.2.1, Ck.ov b294 [.int .i64 u290.1, .slice A291 u290.2.1.length c291, .slice A292 u290.2.2.1.length c292, .int .i64 u290.2.2.2.1] 37]) ?_ ?_
          · intro K326 hK326
            refine HT_region ?_
            refine HL_cons rfl ?_
            refine o_move ?_
            try dsimp only [putL, setL, evL, getL]
            refine HL_cons rfl ?_
            refine o_move ?_
            try dsimp only [putL, setL, evL, getL]
            refine HL_cons rfl ?_
            refine o_neb rfl rfl Try.underlying4 ?_
            try dsimp only [putL, setL, evL, getL]
            refine HL_cons rfl ?_
            refine o_move ?_
            try dsimp only [putL, setL, evL, getL]
            rcases Bool.eq_false_or_eq_true (u290.2.2.2.2.2 != u297.2.2.2.2.2) with hb334 | hb334
            · replace H := iteT hb334 H
              refine HL_skip ?_ ?_
              · exact wantF (j := 3) (b := false) (t := 191) (c := u290.2.2.2.2.2 != u297.2.2.2.2.2) rfl rfl rfl rfl hb334
              try dsimp only [putL, setL, evL, getL]
              refine HL_skip ?_ ?_
              · exact wantF (j := 3) (b := false) (t := 191) (c := u290.2.2.2.2.2 != u297.2.2.2.2.2) rfl rfl rfl rfl hb334
              try dsimp only [putL, setL, evL, getL]
              refine HL_skip ?_ ?_
              · exact wantF (j := 3) (b := false) (t := 191) (c := u290.2.2.2.2.2 != u297.2.2.2.2.2) rfl rfl rfl rfl hb334
              try dsimp only [putL, setL, evL, getL]
              refine HL_skip ?_ ?_
              · exact wantF (j := 3) (b := false) (t := 191) (c := u290.2.2.2.2.2 != u297.2.2.2.2.2) rfl rfl rfl rfl hb334
              try dsimp only [putL, setL, evL, getL]
              refine HL_cons rfl ?_
              refine o_pickT rfl hb334 ?_
              try dsimp only [putL, setL, evL, getL]
              refine HL_cons rfl ?_
              refine o_move ?_
              try dsimp only [putL, setL, evL, getL]
              refine HL_skip ?_ ?_
              · exact wantF (j := 9) (b := false) (t := 197) (c := true) rfl rfl rfl rfl rfl
              try dsimp only [putL, setL, evL, getL]
              refine HL_skip ?_ ?_
              · exact wantF (j := 9) (b := false) (t := 197) (c := true) rfl rfl rfl rfl rfl
              try dsimp only [putL, setL, evL, getL]
              refine HL_skip ?_ ?_
              · exact wantF (j := 9) (b := false) (t := 197) (c := true) rfl rfl rfl rfl rfl
              try dsimp only [putL, setL, evL, getL]
              refine HL_skip ?_ ?_
              · exact wantF (j := 9) (b := false) (t := 197) (c := true) rfl rfl rfl rfl rfl
              try dsimp only [putL, setL, evL, getL]
              refine HL_cons rfl ?_
              refine o_pickT rfl rfl ?_
              try dsimp only [putL, setL, evL, getL]
              refine HL_cons rfl ?_
              refine o_move ?_
              try dsimp only [putL, setL, evL, getL]
              refine HL_skip ?_ ?_
              · exact wantF (j := 15) (b := false) (t := 203) (c := true) rfl rfl rfl rfl rfl
              try dsimp only [putL, setL, evL, getL]
              refine HL_skip ?_ ?_
              · exact wantF (j := 15) (b := false) (t := 203) (c := true) rfl rfl rfl rfl rfl
              try dsimp only [putL, setL, evL, getL]
              refine HL_skip ?_ ?_
              · exact wantF (j := 15) (b := false) (t := 203) (c := true) rfl rfl rfl rfl rfl
              try dsimp only [putL, setL, evL, getL]
              refine HL_cons rfl ?_
              refine o_pickT rfl rfl ?_
              try dsimp only [putL, setL, evL, getL]
              refine HL_cons rfl ?_
              refine o_move ?_
              try dsimp only [putL, setL, evL, getL]
              refine HL_skip ?_ ?_
              · exact wantF (j := 20) (b := false) (t := 208) (c := true) rfl rfl rfl rfl rfl
              try dsimp only [putL, setL, evL, getL]
              refine HL_skip ?_ ?_
              · exact wantF (j := 20) (b := false) (t := 208) (c := true) rfl rfl rfl rfl rfl
              try dsimp only [putL, setL, evL, getL]
              refine HL_skip ?_ ?_
              · exact wantF (j := 20) (b := false) (t := 208) (c := true) rfl rfl rfl rfl rfl
              try dsimp only [putL, setL, evL, getL]
              refine HL_cons rfl ?_
              refine o_pickT rfl rfl ?_
              try dsimp only [putL, setL, evL, getL]
              refine HL_nil ?_
              exact hK326 _ _ ⟨true, H, rfl, hH.sel [5, 3, 4, 6] (by decide)⟩
            · replace H := iteF hb334 H
              refine HL_want ?_ ?_
              · exact wantT (j := 3) (b := false) (t := 191) (c := u290.2.2.2.2.2 != u297.2.2.2.2.2) rfl rfl rfl rfl hb334
              refine o_loads' [.int .i64 u290.1, .slice A291 u290.2.1.length c291, .slice A292 u290.2.2.1.length c292, .int .i64 u290.2.2.2.1] rfl Try.underlying37 rfl tI37 rfl (hH.partv 6 rfl (0) [.int .i64 u290.1, .slice A291 u290.2.1.length c291, .slice A292 u290.2.2.1.length c292, .int .i64 u290.2.2.2.1] rfl) ?_
              try dsimp only [putL, setL, evL, getL]
              refine HL_want ?_ ?_
              · exact wantT (j := 3) (b := false) (t := 191) (c := u290.2.2.2.2.2 != u297.2.2.2.2.2) rfl rfl rfl rfl hb334
              refine o_loads' [.int .i64 u297.1, .slice A298 u297.2.1.length c298, .slice A299 u297.2.2.1.length c299, .int .i64 u297.2.2.2.1] rfl Try.underlying37 rfl tI37 rfl (hH.partv 10 rfl (0) [.int .i64 u297.1, .slice A298 u297.2.1.length c298, .slice A299 u297.2.2.1.length c299, .int .i64 u297.2.2.2.1] rfl) ?_
              try dsimp only [putL, setL, evL, getL]
              replace H := headE H
              obtain ⟨u335, hu335, H⟩ := H
              refine HL_want ?_ ?_
              · exact wantT (j := 3) (b := false) (t := 191) (c := u290.2.2.2.2.2 != u297.2.2.2.2.2) rfl rfl rfl rfl hb334
              refine o_call (args := #[.agg #[.int .i64 u290.1, .slice A291 u290.2.1.length c291, .slice A292 u290.2.2.1.length c292, .int .i64 u290.2.2.2.1], .agg #[.int .i64 u297.1, .slice A298 u297.2.1.length c298, .slice A299 u297.2.2.1.length c299, .int .i64 u297.2.2.2.1]]) Try.func27 rfl rfl rfl (laws_sameBuf.ok s306 s306 no u290.1 A291 c291 u290.2.1 A292 c292 u290.2.2.1 u290.2.2.2.1 u297.1 A298 c298 u297.2.1 A299 c299 u297.2.2.1 u297.2.2.2.1 (hH.rd 3 rfl) (hH.rd 4 rfl) (hH.rd 7 rfl) (hH.rd 8 rfl) (Hp.own (Bs.refl s306)) _ hu335) ?_
              rintro _ s335 ⟨rfl, hD⟩
              replace hH := hH.back0T hD
              clear hD
              dsimp only [addC, setC, rmC, selC, getC] at hH
              try dsimp only [putL, setL, evL, getL]
              refine HL_want ?_ ?_
              · exact wantT (j := 3) (b := false) (t := 191) (c := u290.2.2.2.2.2 != u297.2.2.2.2.2) rfl rfl rfl rfl hb334
              refine o_not rfl ?_
              try dsimp only [putL, setL, evL, getL]
              refine HL_cons rfl ?_
              refine o_pickF rfl hb334 ?_
              try dsimp only [putL, setL, evL, getL]
              refine HL_cons rfl ?_
              refine o_move ?_
              try dsimp only [putL, setL, evL, getL]
              rcases Bool.eq_false_or_eq_true (!u335) with hb336 | hb336
              · replace H := iteT hb336 H
                refine HL_skip ?_ ?_
                · exact wantF (j := 9) (b := false) (t := 197) (c := !u335) rfl rfl rfl rfl hb336
                try dsimp only [putL, setL, evL, getL]
                refine HL_skip ?_ ?_
                · exact wantF (j := 9) (b := false) (t := 197) (c := !u335) rfl rfl rfl rfl hb336
                try dsimp only [putL, setL, evL, getL]
                refine HL_skip ?_ ?_
                · exact wantF (j := 9) (b := false) (t := 197) (c := !u335) rfl rfl rfl rfl hb336
                try dsimp only [putL, setL, evL, getL]
                refine HL_skip ?_ ?_
                · exact wantF (j := 9) (b := false) (t := 197) (c := !u335) rfl rfl rfl rfl hb336
                try dsimp only [putL, setL, evL, getL]
                refine HL_cons rfl ?_
                refine o_pickT rfl hb336 ?_
                try dsimp only [putL, setL, evL, getL]
                refine HL_cons rfl ?_
                refine o_move ?_
                try dsimp only [putL, setL, evL, getL]
                refine HL_skip ?_ ?_
                · exact wantF (j := 15) (b := false) (t := 203) (c := true) rfl rfl rfl rfl rfl
                try dsimp only [putL, setL, evL, getL]
                refine HL_skip ?_ ?_
                · exact wantF (j := 15) (b := false) (t := 203) (c := true) rfl rfl rfl rfl rfl
                try dsimp only [putL, setL, evL, getL]
                refine HL_skip ?_ ?_
                · exact wantF (j := 15) (b := false) (t := 203) (c := true) rfl rfl rfl rfl rfl
                try dsimp only [putL, setL, evL, getL]
                refine HL_cons rfl ?_
                refine o_pickT rfl rfl ?_
                try dsimp only [putL, setL, evL, getL]
                refine HL_cons rfl ?_
                refine o_move ?_
                try dsimp only [putL, setL, evL, getL]
                refine HL_skip ?_ ?_
                · exact wantF (j := 20) (b := false) (t := 208) (c := true) rfl rfl rfl rfl rfl
                try dsimp only [putL, setL, evL, getL]
                refine HL_skip ?_ ?_
                · exact wantF (j := 20) (b := false) (t := 208) (c := true) rfl rfl rfl rfl rfl
                try dsimp only [putL, setL, evL, getL]
                refine HL_skip ?_ ?_
                · exact wantF (j := 20) (b := false) (t := 208) (c := true) rfl rfl rfl rfl rfl
                try dsimp only [putL, setL, evL, getL]
                refine HL_cons rfl ?_
                refine o_pickT rfl rfl ?_
                try dsimp only [putL, setL, evL, getL]
                refine HL_nil ?_
                exact hK326 _ _ ⟨true, H, rfl, hH.sel [5, 3, 4, 6] (by decide)⟩
              · replace H := iteF hb336 H
                refine HL_want ?_ ?_
                · exact wantT (j := 9) (b := false) (t := 197) (c := !u335) rfl rfl rfl rfl hb336
                refine o_move ?_
                try dsimp only [putL, setL, evL, getL]
                refine HL_want ?_ ?_
                · exact wantT (j := 9) (b := false) (t := 197) (c := !u335) rfl rfl rfl rfl hb336
                refine o_move ?_
                try dsimp only [putL, setL, evL, getL]
                replace H := headE H
                obtain ⟨u337, hu337, H⟩ := H
                refine HL_want ?_ ?_
                · exact wantT (j := 9) (b := false) (t := 197) (c := !u335) rfl rfl rfl rfl hb336
                refine o_call (args := #[.slice A293 u290.2.2.2.2.1.length c293, .slice A300 u297.2.2.2.2.1.length c300]) Try.func18 rfl rfl rfl (laws_sameInts.ok s335 s335 no A293 c293 u290.2.2.2.2.1 A300 c300 u297.2.2.2.2.1 (hH.rd 5 rfl) (hH.rd 9 rfl) (Hp.own (Bs.refl s335)) _ hu337) ?_
                rintro _ s337 ⟨rfl, hD⟩
                replace hH := hH.back0T hD
                clear hD
                dsimp only [addC, setC, rmC, selC, getC] at hH
                try dsimp only [putL, setL, evL, getL]
                refine HL_want ?_ ?_
                · exact wantT (j := 9) (b := false) (t := 197) (c := !u335) rfl rfl rfl rfl hb336
                refine o_not rfl ?_
                try dsimp only [putL, setL, evL, getL]
                refine HL_cons rfl ?_
                refine o_pickF rfl hb336 ?_
                try dsimp only [putL, setL, evL, getL]
                refine HL_cons rfl ?_
                refine o_move ?_
                try dsimp only [putL, setL, evL, getL]
                rcases Bool.eq_false_or_eq_true (!u337) with hb338 | hb338
                · replace H := iteT hb338 H
                  refine HL_skip ?_ ?_
                  · exact wantF (j := 15) (b := false) (t := 203) (c := !u337) rfl rfl rfl rfl hb338
                  try dsimp only [putL, setL, evL, getL]
                  refine HL_skip ?_ ?_
                  · exact wantF (j := 15) (b := false) (t := 203) (c := !u337) rfl rfl rfl rfl hb338
                  try dsimp only [putL, setL, evL, getL]
                  refine HL_skip ?_ ?_
                  · exact wantF (j := 15) (b := false) (t := 203) (c := !u337) rfl rfl rfl rfl hb338
                  try dsimp only [putL, setL, evL, getL]
                  refine HL_cons rfl ?_
                  refine o_pickT rfl hb338 ?_
                  try dsimp only [putL, setL, evL, getL]
                  refine HL_cons rfl ?_
                  refine o_move ?_
                  try dsimp only [putL, setL, evL, getL]
                  refine HL_skip ?_ ?_
                  · exact wantF (j := 20) (b := false) (t := 208) (c := true) rfl rfl rfl rfl rfl
                  try dsimp only [putL, setL, evL, getL]
                  refine HL_skip ?_ ?_
                  · exact wantF (j := 20) (b := false) (t := 208) (c := true) rfl rfl rfl rfl rfl
                  try dsimp only [putL, setL, evL, getL]
                  refine HL_skip ?_ ?_
                  · exact wantF (j := 20) (b := false) (t := 208) (c := true) rfl rfl rfl rfl rfl
                  try dsimp only [putL, setL, evL, getL]
                  refine HL_cons rfl ?_
                  refine o_pickT rfl rfl ?_
                  try dsimp only [putL, setL, evL, getL]
                  refine HL_nil ?_
                  exact hK326 _ _ ⟨true, H, rfl, hH.sel [5, 3, 4, 6] (by decide)⟩
                · replace H := iteF hb338 H
                  refine HL_want ?_ ?_
                  · exact wantT (j := 15) (b := false) (t := 203) (c := !u337) rfl rfl rfl rfl hb338
                  refine o_move ?_
                  try dsimp only [putL, setL, evL, getL]
                  refine HL_want ?_ ?_
                  · exact wantT (j := 15) (b := false) (t := 203) (c := !u337) rfl rfl rfl rfl hb338
                  refine o_move ?_
                  try dsimp only [putL, setL, evL, getL]
                  refine HL_want ?_ ?_
                  · exact wantT (j := 15) (b := false) (t := 203) (c := !u337) rfl rfl rfl rfl hb338
                  refine o_neb rfl rfl Try.underlying4 ?_
                  try dsimp only [putL, setL, evL, getL]
                  refine HL_cons rfl ?_
                  refine o_pickF rfl hb338 ?_
                  try dsimp only [putL, setL, evL, getL]
                  refine HL_cons rfl ?_
                  refine o_move ?_
                  try dsimp only [putL, setL, evL, getL]
                  rcases Bool.eq_false_or_eq_true (u304.2 != u306.2) with hb339 | hb339
                  · replace H := iteT hb339 H
                    refine HL_skip ?_ ?_
                    · exact wantF (j := 20) (b := false) (t := 208) (c := u304.2 != u306.2) rfl rfl rfl rfl hb339
                    try dsimp only [putL, setL, evL, getL]
                    refine HL_skip ?_ ?_
                    · exact wantF (j := 20) (b := false) (t := 208) (c := u304.2 != u306.2) rfl rfl rfl rfl hb339
                    try dsimp only [putL, setL, evL, getL]
                    refine HL_skip ?_ ?_
                    · exact wantF (j := 20) (b := false) (t := 208) (c := u304.2 != u306.2) rfl rfl rfl rfl hb339
                    try dsimp only [putL, setL, evL, getL]
                    refine HL_cons rfl ?_
                    refine o_pickT rfl hb339 ?_
                    try dsimp only [putL, setL, evL, getL]
                    refine HL_nil ?_
                    exact hK326 _ _ ⟨true, H, rfl, hH.sel [5, 3, 4, 6] (by decide)⟩
                  · replace H := iteF hb339 H
                    refine HL_want ?_ ?_
                    · exact wantT (j := 20) (b := false) (t := 208) (c := u304.2 != u306.2) rfl rfl rfl rfl hb339
                    refine o_move ?_
                    try dsimp only [putL, setL, evL, getL]
                    refine HL_want ?_ ?_
                    · exact wantT (j := 20) (b := false) (t := 208) (c := u304.2 != u306.2) rfl rfl rfl rfl hb339
                    refine o_move ?_
                    try dsimp only [putL, setL, evL, getL]
                    refine HL_want ?_ ?_
                    · exact wantT (j := 20) (b := false) (t := 208) (c := u304.2 != u306.2) rfl rfl rfl rfl hb339
                    refine o_bin rfl rfl rfl ?_
                    try dsimp only [putL, setL, evL, getL]
                    refine HL_cons rfl ?_
                    refine o_pickF rfl hb339 ?_
                    try dsimp only [putL, setL, evL, getL]
                    refine HL_nil ?_
                    exact hK326 _ _ ⟨u304.1 != u306.1, H, rfl, hH.sel [5, 3, 4, 6] (by decide)⟩
          · rintro l' s340 ⟨x333, H, hl, hH⟩
            generalize getL l' 188 = j188, getL l' 189 = j189, getL l' 190 = j190, getL l' 191 = j191, getL l' 192 = j192, getL l' 193 = j193, getL l' 194 = j194, getL l' 195 = j195, getL l' 196 = j196, getL l' 197 = j197, getL l' 198 = j198, getL l' 199 = j199, getL l' 200 = j200, getL l' 201 = j201, getL l' 202 = j202, getL l' 203 = j203, getL l' 204 = j204, getL l' 205 = j205, getL l' 206 = j206, getL l' 207 = j207, getL l' 208 = j208, getL l' 209 = j209, getL l' 210 = j210, getL l' 211 = j211 at hl
            subst hl
            replace H := hG326 _ H
            try dsimp only at H
            rcases Bool.eq_false_or_eq_true x333 with hb341 | hb341
            · replace H := iteT hb341 H
              refine HT_true (congrArg Value.bool hb341) ?_
              refine HT_seq_k ?_
              intro K342 hK342
              refine HT_region ?_
              refine HL_cons rfl ?_
              refine o_assign ?_
              try dsimp only [putL, setL, evL, getL]
              refine HL_nil ?_
              refine hK342 _ _ ?_
              refine HT_ret ?_
              exact hQr _ _ [.bool false] ⟨rfl, trivial⟩ (retH (fun r => laws_FnBuffer.post sb s F0 r _ _) (show some _ = some r from H) ⟨rfl, hH.sel [] (by decide)⟩)
            · replace H := iteF hb341 H
              refine HT_false (congrArg Value.bool hb341) ?_
              refine HT_skip ?_
              refine hK325 _ _ ?_
              refine HT_seq_k ?_
              intro K343 hK343
              refine HT_region ?_
              refine HL_cons rfl ?_
              refine o_move ?_
              try dsimp only [putL, setL, evL, getL]
              refine HL_cons rfl ?_
              refine o_not rfl ?_
              try dsimp only [putL, setL, evL, getL]
              refine HL_cons rfl ?_
              refine o_move ?_
              try dsimp only [putL, setL, evL, getL]
              rcases Bool.eq_false_or_eq_true (!u290.2.2.2.2.2) with hb344 | hb344
              · replace H := iteT hb344 H
                refine HL_skip ?_ ?_
                · exact wantF (j := 2) (b := false) (t := 215) (c := !u290.2.2.2.2.2) rfl rfl rfl rfl hb344
                try dsimp only [putL, setL, evL, getL]
                refine HL_skip ?_ ?_
                · exact wantF (j := 2) (b := false) (t := 215) (c := !u290.2.2.2.2.2) rfl rfl rfl rfl hb344
                try dsimp only [putL, setL, evL, getL]
                refine HL_skip ?_ ?_
                · exact wantU (j := 4) (b := true) (t := 217) rfl rfl rfl rfl
                try dsimp only [putL, setL, evL, getL]
                refine HL_skip ?_ ?_
                · exact wantU (j := 4) (b := true) (t := 217) rfl rfl rfl rfl
                try dsimp only [putL, setL, evL, getL]
                refine HL_skip ?_ ?_
                · exact wantU (j := 4) (b := true) (t := 217) rfl rfl rfl rfl
                try dsimp only [putL, setL, evL, getL]
                refine HL_skip ?_ ?_
                · exact wantU (j := 4) (b := true) (t := 217) rfl rfl rfl rfl
                try dsimp only [putL, setL, evL, getL]
                refine HL_skip ?_ ?_
                · exact wantF (j := 2) (b := false) (t := 215) (c := !u290.2.2.2.2.2) rfl rfl rfl rfl hb344
                try dsimp only [putL, setL, evL, getL]
                refine HL_skip ?_ ?_
                · exact wantF (j := 2) (b := false) (t := 215) (c := !u290.2.2.2.2.2) rfl rfl rfl rfl hb344
                try dsimp only [putL, setL, evL, getL]
                refine HL_skip ?_ ?_
                · exact wantU (j := 10) (b := true) (t := 223) rfl rfl rfl rfl
                try dsimp only [putL, setL, evL, getL]
                refine HL_skip ?_ ?_
                · exact wantU (j := 10) (b := true) (t := 223) rfl rfl rfl rfl
                try dsimp only [putL, setL, evL, getL]
                refine HL_skip ?_ ?_
                · exact wantU (j := 10) (b := true) (t := 223) rfl rfl rfl rfl
                try dsimp only [putL, setL, evL, getL]
                refine HL_skip ?_ ?_
                · exact wantU (j := 10) (b := true) (t := 223) rfl rfl rfl rfl
                try dsimp only [putL, setL, evL, getL]
                refine HL_skip ?_ ?_
                · exact wantF (j := 2) (b := false) (t := 215) (c := !u290.2.2.2.2.2) rfl rfl rfl rfl hb344
                try dsimp only [putL, setL, evL, getL]
                refine HL_cons rfl ?_
                refine o_pickT rfl hb344 ?_
                try dsimp only [putL, setL, evL, getL]
                refine HL_cons rfl ?_
                refine o_assign ?_
                try dsimp only [putL, setL, evL, getL]
                refine HL_nil ?_
                refine hK343 _ _ ?_
                refine HT_ret ?_
                exact hQr _ _ [.bool true] ⟨rfl, trivial⟩ (retH (fun r => laws_FnBuffer.post sb s F0 r _ _) (show some _ = some r from H) ⟨rfl, hH.sel [] (by decide)⟩)
              · replace H := iteF hb344 H
                refine HL_want ?_ ?_
                · exact wantT (j := 2) (b := false) (t := 215) (c := !u290.2.2.2.2.2) rfl rfl rfl rfl hb344
                refine o_move ?_
                try dsimp only [putL, setL, evL, getL]
                refine HL_want ?_ ?_
                · exact wantT (j := 2) (b := false) (t := 215) (c := !u290.2.2.2.2.2) rfl rfl rfl rfl hb344
                refine o_move ?_
                try dsimp only [putL, setL, evL, getL]
                rcases Bool.eq_false_or_eq_true u304.2 with hb345 | hb345
                · replace H := iteT hb345 H
                  refine HL_want ?_ ?_
                  · exact wantT (j := 4) (b := true) (t := 217) (c := u304.2) rfl rfl rfl rfl hb345
                  refine o_faddr' (ft := 3) (off := 3) rfl Try.underlying37 rfl tI3 (by decide) ?_
                  try dsimp only [putL, setL, evL, getL]
                  refine HL_want ?_ ?_
                  · exact wantT (j := 4) (b := true) (t := 217) (c := u304.2) rfl rfl rfl rfl hb345
                  refine o_load' rfl Try.underlying3 rfl (hH.hasv 3 rfl rfl) ?_
                  try dsimp only [putL, setL, evL, getL]
                  refine HL_want ?_ ?_
                  · exact wantT (j := 4) (b := true) (t := 217) (c := u304.2) rfl rfl rfl rfl hb345
                  refine o_move ?_
                  try dsimp only [putL, setL, evL, getL]
                  refine HL_want ?_ ?_
                  · exact wantT (j := 4) (b := true) (t := 217) (c := u304.2) rfl rfl rfl rfl hb345
                  refine o_bin rfl rfl rfl ?_
                  try dsimp only [putL, setL, evL, getL]
                  refine HL_want ?_ ?_
                  · exact wantT (j := 2) (b := false) (t := 215) (c := !u290.2.2.2.2.2) rfl rfl rfl rfl hb344
                  refine o_pickT rfl hb345 ?_
                  try dsimp only [putL, setL, evL, getL]
                  refine HL_want ?_ ?_
                  · exact wantT (j := 2) (b := false) (t := 215) (c := !u290.2.2.2.2.2) rfl rfl rfl rfl hb344
                  refine o_move ?_
                  try dsimp only [putL, setL, evL, getL]
                  rcases Bool.eq_false_or_eq_true (u290.2.2.2.1 == u304.1) with hb346 | hb346
                  · replace H := iteT hb346 H
                    refine HL_want ?_ ?_
                    · exact wantT (j := 10) (b := true) (t := 223) (c := u290.2.2.2.1 == u304.1) rfl rfl rfl rfl hb346
                    refine o_move ?_
                    try dsimp only [putL, setL, evL, getL]
                    refine HL_want ?_ ?_
                    · exact wantT (j := 10) (b := true) (t := 223) (c := u290.2.2.2.1 == u304.1) rfl rfl rfl rfl hb346
                    refine o_len rfl Try.underlying24 ?_
                    try dsimp only [putL, setL, evL, getL]
                    refine HL_want ?_ ?_
                    · exact wantT (j := 10) (b := true) (t := 223) (c := u290.2.2.2.1 == u304.1) rfl rfl rfl rfl hb346
                    refine o_move ?_
                    try dsimp only [putL, setL, evL, getL]
                    refine HL_want ?_ ?_
                    · exact wantT (j := 10) (b := true) (t := 223) (c := u290.2.2.2.1 == u304.1) rfl rfl rfl rfl hb346
                    refine o_bin rfl rfl rfl ?_
                    try dsimp only [putL, setL, evL, getL]
                    refine HL_want ?_ ?_
                    · exact wantT (j := 2) (b := false) (t := 215) (c := !u290.2.2.2.2.2) rfl rfl rfl rfl hb344
                    refine o_pickT rfl hb346 ?_
                    try dsimp only [putL, setL, evL, getL]
                    refine HL_cons rfl ?_
                    refine o_pickF rfl hb344 ?_
                    try dsimp only [putL, setL, evL, getL]
                    refine HL_cons rfl ?_
                    refine o_assign ?_
                    try dsimp only [putL, setL, evL, getL]
                    refine HL_nil ?_
                    refine hK343 _ _ ?_
                    refine HT_ret ?_
                    exact hQr _ _ [.bool ((u290.2.2.2.2.1.length : Int) == u284.2.2.2.2)] ⟨rfl, trivial⟩ (retH (fun r => laws_FnBuffer.post sb s F0 r _ _) (show some _ = some r from H) ⟨rfl, hH.sel [] (by decide)⟩)
                  · replace H := iteF hb346 H
                    refine HL_skip ?_ ?_
                    · exact wantF (j := 10) (b := true) (t := 223) (c := u290.2.2.2.1 == u304.1) rfl rfl rfl rfl hb346
                    try dsimp only [putL, setL, evL, getL]
                    refine HL_skip ?_ ?_
                    · exact wantF (j := 10) (b := true) (t := 223) (c := u290.2.2.2.1 == u304.1) rfl rfl rfl rfl hb346
                    try dsimp only [putL, setL, evL, getL]
                    refine HL_skip ?_ ?_
                    · exact wantF (j := 10) (b := true) (t := 223) (c := u290.2.2.2.1 == u304.1) rfl rfl rfl rfl hb346
                    try dsimp only [putL, setL, evL, getL]
                    refine HL_skip ?_ ?_
                    · exact wantF (j := 10) (b := true) (t := 223) (c := u290.2.2.2.1 == u304.1) rfl rfl rfl rfl hb346
                    try dsimp only [putL, setL, evL, getL]
                    refine HL_want ?_ ?_
                    · exact wantT (j := 2) (b := false) (t := 215) (c := !u290.2.2.2.2.2) rfl rfl rfl rfl hb344
                    refine o_pickF rfl hb346 ?_
                    try dsimp only [putL, setL, evL, getL]
                    refine HL_cons rfl ?_
                    refine o_pickF rfl hb344 ?_
                    try dsimp only [putL, setL, evL, getL]
                    refine HL_cons rfl ?_
                    refine o_assign ?_
                    try dsimp only [putL, setL, evL, getL]
                    refine HL_nil ?_
                    refine hK343 _ _ ?_
                    refine HT_ret ?_
                    exact hQr _ _ [.bool false] ⟨rfl, trivial⟩ (retH (fun r => laws_FnBuffer.post sb s F0 r _ _) (show some _ = some r from H) ⟨rfl, hH.sel [] (by decide)⟩)
                · replace H := iteF hb345 H
                  refine HL_skip ?_ ?_
                  · exact wantF (j := 4) (b := true) (t := 217) (c := u304.2) rfl rfl rfl rfl hb345
                  try dsimp only [putL, setL, evL, getL]
                  refine HL_skip ?_ ?_
                  · exact wantF (j := 4) (b := true) (t := 217) (c := u304.2) rfl rfl rfl rfl hb345
                  try dsimp only [putL, setL, evL, getL]
                  refine HL_skip ?_ ?_
                  · exact wantF (j := 4) (b := true) (t := 217) (c := u304.2) rfl rfl rfl rfl hb345
                  try dsimp only [putL, setL, evL, getL]
                  refine HL_skip ?_ ?_
                  · exact wantF (j := 4) (b := true) (t := 217) (c := u304.2) rfl rfl rfl rfl hb345
                  try dsimp only [putL, setL, evL, getL]
                  refine HL_want ?_ ?_
                  · exact wantT (j := 2) (b := false) (t := 215) (c := !u290.2.2.2.2.2) rfl rfl rfl rfl hb344
                  refine o_pickF rfl hb345 ?_
                  try dsimp only [putL, setL, evL, getL]
                  refine HL_want ?_ ?_
                  · exact wantT (j := 2) (b := false) (t := 215) (c := !u290.2.2.2.2.2) rfl rfl rfl rfl hb344
                  refine o_move ?_
                  try dsimp only [putL, setL, evL, getL]
                  refine HL_skip ?_ ?_
                  · exact wantF (j := 10) (b := true) (t := 223) (c := false) rfl rfl rfl rfl rfl
                  try dsimp only [putL, setL, evL, getL]
                  refine HL_skip ?_ ?_
                  · exact wantF (j := 10) (b := true) (t := 223) (c := false) rfl rfl rfl rfl rfl
                  try dsimp only [putL, setL, evL, getL]
                  refine HL_skip ?_ ?_
                  · exact wantF (j := 10) (b := true) (t := 223) (c := false) rfl rfl rfl rfl rfl
                  try dsimp only [putL, setL, evL, getL]
                  refine HL_skip ?_ ?_
                  · exact wantF (j := 10) (b := true) (t := 223) (c := false) rfl rfl rfl rfl rfl
                  try dsimp only [putL, setL, evL, getL]
                  refine HL_want ?_ ?_
                  · exact wantT (j := 2) (b := false) (t := 215) (c := !u290.2.2.2.2.2) rfl rfl rfl rfl hb344
                  refine o_pickF rfl rfl ?_
                  try dsimp only [putL, setL, evL, getL]
                  refine HL_cons rfl ?_
                  refine o_pickF rfl hb344 ?_
                  try dsimp only [putL, setL, evL, getL]
                  refine HL_cons rfl ?_
                  refine o_assign ?_
                  try dsimp only [putL, setL, evL, getL]
                  refine HL_nil ?_
                  refine hK343 _ _ ?_
                  refine HT_ret ?_
                  exact hQr _ _ [.bool false] ⟨rfl, trivial⟩ (retH (fun r => laws_FnBuffer.post sb s F0 r _ _) (show some _ = some r from H) ⟨rfl, hH.sel [] (by decide)⟩)
end Go.Proofs.Ytkieinlcpkpcjaa
