/- The functions that the law reaches, as plain functions, each with its contract: printed by a program of the prover's. No conditions: lemmas. -/
import Derived.Test.YtkieinlcpkpcjaaWReplaceIn3
set_option linter.unusedVariables false
set_option linter.unusedSimpArgs false
namespace Go.Proofs.Ytkieinlcpkpcjaa
open Go Go.Proofs.GL
def impl_findAll.l1 (p1 : List (Int)) (u3 : (List ((Int) × (List (Int)))) × (List (List (Int))) × (List (Int)) × (List (List (List (Bool))))) : Nat → (List ((Int) × (Int) × (Int))) → Int → Option (List ((Int) × (Int) × (Int)))
 | 0, _, _ => none
 | kf + 1, x64, x65 => (impl_matcher_find.f u3.1 u3.2.1 u3.2.2.1 u3.2.2.2 x65 (p1.length : Int)).bind fun u82 => if (!u82.2.2) = true then (some x64) else ((app? 5864062014805 x64 [((x64.length : Int), u82.1, u82.2.1)]).bind fun x89 => if (u82.1 == u82.2.1) = true then (impl_findAll.l1 p1 u3 kf x89 (IntKind.i64.wrap (u82.2.1 + 1))) else (impl_findAll.l1 p1 u3 kf x89 u82.2.1))
def impl_findAll.f (p0 : List ((Int) × (List (Int)))) (p1 : List (Int)) : Option (List ((Int) × (Int) × (Int))) := (impl_match.f p0 p1).bind fun u3 => impl_findAll.l1 p1 u3 (p1.length + 3) ([] : List ((Int) × (Int) × (Int))) 0
def impl_findAll.post (sb s : St) (F0 : Fp) (r : (List ((Int) × (Int) × (Int)))) : Value → St → Prop := fun v s' => ∃ (A0 : Option Addr) (c0 : Nat), v = .slice A0 r.length c0 ∧ Hp sb s F0 s' [Ck.ol OS207 207 A0 c0 r]
set_option maxRecDepth 100000 in
set_option maxHeartbeats 4000000 in
theorem impl_findAll.ok (sb s : St) (F0 : Fp) (A0p : Option Addr) (c0p : Nat) (p0 : List ((Int) × (List (Int)))) (A1p : Option Addr) (c1p : Nat) (p1 : List (Int)) (HRp0 : Rd KS139 sb A0p c0p p0) (HRp1 : Rd KI sb A1p c1p p1) (hH : Hp sb s F0 s []) (r : (List ((Int) × (Int) × (Int)))) (H : impl_findAll.f p0 p1 = some r) : GCall Try.prog 215 #[.slice A0p p0.length c0p, .slice A1p p1.length c1p] s (impl_findAll.post sb s F0 r) := by
 refine GCall_ofk [.tmp 4] [.slice A0p p0.length c0p, .slice A1p p1.length c1p, undef, undef, undef, undef, undef, undef, undef, undef, undef, undef, undef, undef, undef, undef, undef, undef, undef, undef, undef, undef, undef, undef, undef, undef, undef, undef, undef, undef, undef, undef, undef, undef, undef, undef, undef, undef, undef, undef, undef] Try.func215 rfl rfl rfl ?_
 intro w Q hQr hQn hQp
 replace H := topE H
 unfold impl_findAll.f at H
 refine HT_seq_k ?_
 intro K1 hK1
 refine HT_region ?_
 refine HL_cons rfl ?_
 refine o_assign ?_
 try dsimp only [putL, setL, evL, getL]
 refine HL_nil ?_
 refine hK1 _ _ ?_
 refine HT_seq_k ?_
 intro K2 hK2
 refine HT_region ?_
 refine HL_cons rfl ?_
 refine o_move ?_
 try dsimp only [putL, setL, evL, getL]
 refine HL_cons rfl ?_
 refine o_move ?_
 try dsimp only [putL, setL, evL, getL]
 replace H := headE H
 obtain ⟨u3, hu3, H⟩ := H
 refine HL_cons rfl ?_
 refine o_call (args := #[.slice A0p p0.length c0p, .slice A1p p1.length c1p]) Try.func177 rfl rfl rfl (impl_match.ok sb s no A0p c0p p0 A1p c1p p1 HRp0 HRp1 (Hp.own hH.bs) _ hu3) ?_
 rintro _ s3 ⟨b4, A5, c5, A6, c6, A7, c7, A8, c8, rfl, hD, D5, D7⟩
 replace hH := hH.back0 hD (Up.refl _ _ _)
 clear hD
 dsimp only [addC, setC, rmC, selC, getC] at hH
 try dsimp only [putL, setL, evL, getL]
 refine HL_cons rfl ?_
 refine o_lit0H (α := (Int) × (Int) × (Int)) (K := KS207) (O := OS207) hH Try.underlying203 tI207 ?_
 intro A9 s9 hH' hG
 replace hH : Hp sb s F0 s9 [Ck.ol (Ow.sl OI 3) 24 A6 c6 u3.2.1, Ck.ol (Ow.sl (Ow.sl (Ow.flat Kd.bool_flat) 4) 209) 178 A8 c8 u3.2.2.2, Ck.ov b4 [.slice A5 u3.1.length c5, .slice A6 u3.2.1.length c6, .slice A7 u3.2.2.1.length c7, .slice A8 u3.2.2.2.length c8] 165, Ck.ol OS207 207 A9 0 ([] : List ((Int) × (Int) × (Int)))] := hH'
 clear hH' hG
 try dsimp only [putL, setL, evL, getL]
 refine HL_cons rfl ?_
 refine o_assign ?_
 try dsimp only [putL, setL, evL, getL]
 refine HL_cons rfl ?_
 refine o_assign ?_
 try dsimp only [putL, setL, evL, getL]
 refine HL_cons rfl ?_
 refine o_assign ?_
 try dsimp only [putL, setL, evL, getL]
 refine HL_nil ?_
 refine hK2 _ _ ?_
 refine HT_block ?_
 refine HT_loopK (fun kf l' s' => ∃ (x64 : List ((Int) × (Int) × (Int))) (A64 : Option Addr) (c64 : Nat) (x65 : Int), (impl_findAll.l1 p1 u3 kf x64 x65).bind some = some r ∧ l' = [.slice A0p p0.length c0p, .slice A1p p1.length c1p, undef, undef, getL l' 4, .pointer (some ⟨b4, 0, none⟩), .slice A64 x64.length c64, .int .i64 x65, getL l' 8, getL l' 9, getL l' 10, .slice A0p p0.length c0p, .slice A1p p1.length c1p, .pointer (some ⟨b4, 0, none⟩), .slice A9 ([] : List ((Int) × (Int) × (Int))).length 0, getL l' 15, getL l' 16, getL l' 17, getL l' 18, getL l' 19, getL l' 20, getL l' 21, getL l' 22, getL l' 23, getL l' 24, getL l' 25, getL l' 26, getL l' 27, getL l' 28, getL l' 29, getL l' 30, getL l' 31, getL l' 32, getL l' 33, getL l' 34, getL l' 35, getL l' 36, getL l' 37, getL l' 38, getL l' 39, getL l' 40] ∧ Hp sb s F0 s' [Ck.ol OS207 207 A64 c64 x64, Ck.ol (Ow.sl OI 3) 24 A6 c6 u3.2.1, Ck.ol (Ow.sl (Ow.sl (Ow.flat Kd.bool_flat) 4) 209) 178 A8 c8 u3.2.2.2, Ck.ov b4 [.slice A5 u3.1.length c5, .slice A6 u3.2.1.length c6, .slice A7 u3.2.2.1.length c7, .slice A8 u3.2.2.2.length c8] 165]) (p1.length + 3) ⟨([] : List ((Int) × (Int) × (Int))), A9, 0, 0, H, rfl, hH.sel [3, 0, 1, 2] (by decide)⟩ ?_
 rintro kf l' s80 ⟨x64, A64, c64, x65, H, hl, hH⟩ K80 hK80
 generalize getL l' 4 = j4, getL l' 8 = j8, getL l' 9 = j9, getL l' 10 = j10, getL l' 15 = j15, getL l' 16 = j16, getL l' 17 = j17, getL l' 18 = j18, getL l' 19 = j19, getL l' 20 = j20, getL l' 21 = j21, getL l' 22 = j22, getL l' 23 = j23, getL l' 24 = j24, getL l' 25 = j25, getL l' 26 = j26, getL l' 27 = j27, getL l' 28 = j28, getL l' 29 = j29, getL l' 30 = j30, getL l' 31 = j31, getL l' 32 = j32, getL l' 33 = j33, getL l' 34 = j34, getL l' 35 = j35, getL l' 36 = j36, getL l' 37 = j37, getL l' 38 = j38, getL l' 39 = j39, getL l' 40 = j40 at hl
 subst hl
 cases kf with
 | zero => simp [impl_findAll.l1] at H
 | succ kf =>
  rw [impl_findAll.l1] at H
  refine HT_block ?_
  refine HT_seq_k ?_
  intro K81 hK81
  refine HT_region ?_
  refine HL_cons rfl ?_
  refine o_move ?_
  try dsimp only [putL, setL, evL, getL]
  refine HL_cons rfl ?_
  refine o_move ?_
  try dsimp only [putL, setL, evL, getL]
  refine HL_cons rfl ?_
  refine o_move ?_
  try dsimp only [putL, setL, evL, getL]
  refine HL_cons rfl ?_
  refine o_len rfl Try.underlying24 ?_
  try dsimp only [putL, setL, evL, getL]
  replace H := headE H
  obtain ⟨u82, hu82, H⟩ := H
  obtain ⟨F1, sx, hx, hC, hA, hB⟩ := hH.takeT [3] (by decide)
  dsimp only [addC, setC, rmC, selC, getC] at hA
  refine HL_cons rfl ?_
  refine o_call (args := #[.pointer (some ⟨b4, 0, none⟩), .int .i64 x65, .int .i64 (p1.length : Int)]) Try.func233 rfl rfl rfl (impl_matcher_find.ok sx s80 F1 b4 A5 c5 u3.1 A6 c6 u3.2.1 A7 c7 u3.2.2.1 A8 c8 u3.2.2.2 x65 (p1.length : Int) (D5.mono hx.mono) (Ck.rdT hx (hC 1 (by decide)) rfl) (D7.mono hx.mono) (Ck.rdT hx (hC 2 (by decide)) rfl) hA _ hu82) ?_
  rintro _ s82 ⟨rfl, hD⟩
  replace hH := hB _ _ _ inferInstance hD
  clear hD hA hB hx hC
  dsimp only [addC, setC, rmC, selC, getC] at hH
  try dsimp only [putL, setL, evL, getL]
  refine HL_cons rfl ?_
  refine o_move ?_
  try dsimp only [putL, setL, evL, getL]
  refine HL_cons rfl ?_
  refine o_extract rfl rfl ?_
  try dsimp only [putL, setL, evL, getL]
  refine HL_cons rfl ?_
  refine o_extract rfl rfl ?_
  try dsimp only [putL, setL, evL, getL]
  refine HL_cons rfl ?_
  refine o_extract rfl rfl ?_
  try dsimp only [putL, setL, evL, getL]
  refine HL_cons rfl ?_
  refine o_assign ?_
  try dsimp only [putL, setL, evL, getL]
  refine HL_cons rfl ?_
  refine o_assign ?_
  try dsimp only [putL, setL, evL, getL]
  refine HL_cons rfl ?_
  refine o_assign ?_
  try dsimp only [putL, setL, evL, getL]
  refine HL_nil ?_
  refine hK81 _ _ ?_
  refine HT_seq_k ?_
  intro K83 hK83
  refine HT_seq_k ?_
  intro K84 hK84
  refine HT_region ?_
  refine HL_cons rfl ?_
  refine o_move ?_
  try dsimp only [putL, setL, evL, getL]
  refine HL_cons rfl ?_
  refine o_not rfl ?_
  try dsimp only [putL, setL, evL, getL]
  refine HL_nil ?_
  refine hK84 _ _ ?_
  rcases Bool.eq_false_or_eq_true (!u82.2.2) with hb85 | hb85
  ·replace H := iteT hb85 H
   refine HT_true (congrArg Value.bool hb85) ?_
   refine HT_seq_k ?_
   intro K86 hK86
   refine HT_region ?_
   refine HL_cons rfl ?_
   refine o_move ?_
   try dsimp only [putL, setL, evL, getL]
   refine HL_cons rfl ?_
   refine o_assign ?_
   try dsimp only [putL, setL, evL, getL]
   refine HL_nil ?_
   refine hK86 _ _ ?_
   refine HT_ret ?_
   exact hQr _ _ [.slice A64 x64.length c64] ⟨rfl, trivial⟩ (retH (fun r => impl_findAll.post sb s F0 r _ _) (show some _ = some r from H) ⟨A64, c64, rfl, hH.sel [0] (by decide)⟩)
  ·replace H := iteF hb85 H
   refine HT_false (congrArg Value.bool hb85) ?_
   refine HT_skip ?_
   refine hK83 _ _ ?_
   refine HT_seq_k ?_
   intro K87 hK87
   refine HT_region ?_
   refine HL_cons rfl ?_
   refine o_move ?_
   try dsimp only [putL, setL, evL, getL]
   refine HL_cons rfl ?_
   refine o_move ?_
   try dsimp only [putL, setL, evL, getL]
   refine HL_cons rfl ?_
   refine o_len rfl Try.underlying203 ?_
   try dsimp only [putL, setL, evL, getL]
   refine HL_cons rfl ?_
   refine o_move ?_
   try dsimp only [putL, setL, evL, getL]
   refine HL_cons rfl ?_
   refine o_move ?_
   try dsimp only [putL, setL, evL, getL]
   refine HL_cons rfl ?_
   refine o_build (pl := [(0, 1), (1, 1), (2, 1)]) (cs := #[.int .i64 (x64.length : Int), .int .i64 u82.1, .int .i64 u82.2.1]) Try.underlying207 tI207 (by kernel_rfl) (by kernel_rfl) rfl ?_
   try dsimp only [putL, setL, evL, getL]
   refine HL_cons rfl ?_
   refine o_litF (K := KS207) (O := OS207) (ca := #[.int .i64 (x64.length : Int), .int .i64 u82.1, .int .i64 u82.2.1]) [[.int .i64 (x64.length : Int), .int .i64 u82.1, .int .i64 u82.2.1]] [((x64.length : Int), u82.1, u82.2.1)] hH Try.underlying203 tI207 rfl (by decide) rfl rfl (by kernel_rfl) rfl ⟨rfl, Ent.own (Ent.pair (v1 := [.int .i64 (x64.length : Int)]) (v2 := [.int .i64 u82.1, .int .i64 u82.2.1]) (x1 := (x64.length : Int)) (x2 := (u82.1, u82.2.1)) (Ent.flat rfl) (Ent.pair (v1 := [.int .i64 u82.1]) (v2 := [.int .i64 u82.2.1]) (x1 := u82.1) (x2 := u82.2.1) (Ent.flat rfl) (Ent.flat rfl))), trivial⟩ ?_
   intro A88 s88 hH' hG
   replace hH : Hp sb s F0 s88 [Ck.ol OS207 207 A64 c64 x64, Ck.ol (Ow.sl OI 3) 24 A6 c6 u3.2.1, Ck.ol (Ow.sl (Ow.sl (Ow.flat Kd.bool_flat) 4) 209) 178 A8 c8 u3.2.2.2, Ck.emp, Ck.ov b4 [.slice A5 u3.1.length c5, .slice A6 u3.2.1.length c6, .slice A7 u3.2.2.1.length c7, .slice A8 u3.2.2.2.length c8] 165, Ck.ol OS207 207 A88 1 [((x64.length : Int), u82.1, u82.2.1)]] := hH'
   clear hH' hG
   try dsimp only [putL, setL, evL, getL]
   replace H := headE H
   obtain ⟨x89, hx89, H⟩ := H
   refine HL_cons rfl ?_
   refine o_appF (K := KS207) (n := 5864062014805) (A := A64) (c := c64) (xs := x64) (ys := [((x64.length : Int), u82.1, u82.2.1)]) (B := A88) (c2 := 1) hH 0 rfl rfl rfl rfl Try.underlying203 tI207 rfl (by decide) (by decide) (by decide) (Src.flat (hH.rd 5 rfl)) hx89 ?_
   intro A89 c89 s89 hH'
   replace hH : Hp sb s F0 s89 [Ck.ol OS207 207 A89 c89 x89, Ck.ol (Ow.sl OI 3) 24 A6 c6 u3.2.1, Ck.ol (Ow.sl (Ow.sl (Ow.flat Kd.bool_flat) 4) 209) 178 A8 c8 u3.2.2.2, Ck.emp, Ck.ov b4 [.slice A5 u3.1.length c5, .slice A6 u3.2.1.length c6, .slice A7 u3.2.2.1.length c7, .slice A8 u3.2.2.2.length c8] 165, Ck.ol OS207 207 A88 1 [((x64.length : Int), u82.1, u82.2.1)]] := hH'
   clear hH'
   try dsimp only [putL, setL, evL, getL]
   refine HL_cons rfl ?_
   refine o_assign ?_
   try dsimp only [putL, setL, evL, getL]
   refine HL_nil ?_
   refine hK87 _ _ ?_
   refine HT_seq_k ?_
   intro K90 hK90
   refine HT_region ?_
   refine HL_cons rfl ?_
   refine o_move ?_
   try dsimp only [putL, setL, evL, getL]
   refine HL_cons rfl ?_
   refine o_assign ?_
   try dsimp only [putL, setL, evL, getL]
   refine HL_nil ?_
   refine hK90 _ _ ?_
   refine HT_seq_k ?_
   intro K91 hK91
   refine HT_region ?_
   refine HL_cons rfl ?_
   refine o_move ?_
   try dsimp only [putL, setL, evL, getL]
   refine HL_cons rfl ?_
   refine o_move ?_
   try dsimp only [putL, setL, evL, getL]
   refine HL_cons rfl ?_
   refine o_bin rfl rfl rfl ?_
   try dsimp only [putL, setL, evL, getL]
   refine HL_nil ?_
   refine hK91 _ _ ?_
   rcases Bool.eq_false_or_eq_true (u82.1 == u82.2.1) with hb92 | hb92
   ·replace H := iteT hb92 H
    refine HT_true (congrArg Value.bool hb92) ?_
    refine HT_region ?_
    refine HL_cons rfl ?_
    refine o_move ?_
    try dsimp only [putL, setL, evL, getL]
    refine HL_cons rfl ?_
    refine o_bin rfl rfl rfl ?_
    try dsimp only [putL, setL, evL, getL]
    refine HL_cons rfl ?_
    refine o_assign ?_
    try dsimp only [putL, setL, evL, getL]
    refine HL_nil ?_
    exact hK80 _ _ ⟨kf, Nat.lt_succ_self kf, x89, A89, c89, IntKind.i64.wrap (u82.2.1 + 1), H, rfl, hH.sel [0, 1, 2, 4] (by decide)⟩
   ·replace H := iteF hb92 H
    refine HT_false (congrArg Value.bool hb92) ?_
    refine HT_skip ?_
    exact hK80 _ _ ⟨kf, Nat.lt_succ_self kf, x89, A89, c89, u82.2.1, H, rfl, hH.sel [0, 1, 2, 4] (by decide)⟩
def impl_between.l1 (p1 : List (Int)) (u6 : (List ((Int) × (Int) × (Int)))) : Nat → (List (List (Int))) → Int → Int → Option ((List (List (Int))) × Int)
 | 0, _, _, _ => none
 | kf + 1, x174, x175, x176 => if (decide (x176 < (u6.length : Int))) = true then (((rd? u6 x176).bind fun u243 => (cut? p1 x175 u243.2.1).bind fun x246 => (slices_Clone_int_int.f x246).bind fun u247 => (app? 5864062014805 x174 [u247]).bind fun x250 => some (x250, u243.2.2)).bind fun (o : (List (List (Int))) × Int) => match o with | (x240, x241) => (impl_between.l1 p1 u6 kf x240 x241 (IntKind.i64.wrap (x176 + 1)))) else (some (x174, x175))
def impl_between.f (p0 : List ((Int) × (List (Int)))) (p1 : List (Int)) : Option (List (List (Int))) := (impl_findAll.f p0 p1).bind fun u6 => (impl_between.l1 p1 u6 ((((u6.length : Int)) - (0)).toNat + 2) ([] : List (List (Int))) 0 0).bind fun (o : (List (List (Int))) × Int) => match o with | (x133, x134) => ((cut? p1 x134 (p1.length : Int)).bind fun x261 => (slices_Clone_int_int.f x261).bind fun u262 => (app? 5864062014805 x133 [u262]).bind fun x265 => some x265)
def impl_between.post (sb s : St) (F0 : Fp) (r : (List (List (Int)))) : Value → St → Prop := fun v s' => ∃ (A0 : Option Addr) (c0 : Nat), v = .slice A0 r.length c0 ∧ Hp sb s F0 s' [Ck.ol (Ow.sl OI 3) 24 A0 c0 r]
set_option maxRecDepth 100000 in
set_option maxHeartbeats 4000000 in
theorem impl_between.ok (sb s : St) (F0 : Fp) (A0p : Option Addr) (c0p : Nat) (p0 : List ((Int) × (List (Int)))) (A1p : Option Addr) (c1p : Nat) (p1 : List (Int)) (HRp0 : Rd KS139 sb A0p c0p p0) (HRp1 : Rd KI sb A1p c1p p1) (hH : Hp sb s F0 s []) (r : (List (List (Int)))) (H : impl_between.f p0 p1 = some r) : GCall Try.prog 173 #[.slice A0p p0.length c0p, .slice A1p p1.length c1p] s (impl_between.post sb s F0 r) := by
 refine GCall_ofk [.tmp 4] [.slice A0p p0.length c0p, .slice A1p p1.length c1p, undef, undef, undef, undef, undef, undef, undef, undef, undef, undef, undef, undef, undef, undef, undef, undef, undef, undef, undef, undef, undef, undef, undef, undef, undef, undef, undef, undef, undef, undef, undef, undef, undef, undef, undef] Try.func173 rfl rfl rfl ?_
 intro w Q hQr hQn hQp
 replace H := topE H
 unfold impl_between.f at H
 refine HT_seq_k ?_
 intro K1 hK1
 refine HT_region ?_
 refine HL_cons rfl ?_
 refine o_assign ?_
 try dsimp only [putL, setL, evL, getL]
 refine HL_nil ?_
 refine hK1 _ _ ?_
 refine HT_seq_k ?_
 intro K2 hK2
 refine HT_region ?_
 refine HL_cons rfl ?_
 refine o_lit0H (α := List (Int)) (K := (Kd.sl KI)) (O := (Ow.sl OI 3)) hH Try.underlying105 tI24 ?_
 intro A3 s3 hH' hG
 replace hH : Hp sb s F0 s3 [Ck.ol (Ow.sl OI 3) 24 A3 0 ([] : List (List (Int)))] := hH'
 clear hH' hG
 try dsimp only [putL, setL, evL, getL]
 refine HL_cons rfl ?_
 refine o_assign ?_
 try dsimp only [putL, setL, evL, getL]
 refine HL_cons rfl ?_
 refine o_assign ?_
 try dsimp only [putL, setL, evL, getL]
 refine HL_nil ?_
 refine hK2 _ _ ?_
 refine HT_seq_k ?_
 intro K4 hK4
 refine HT_seq_k ?_
 intro K5 hK5
 refine HT_region ?_
 refine HL_cons rfl ?_
 refine o_move ?_
 try dsimp only [putL, setL, evL, getL]
 refine HL_cons rfl ?_
 refine o_move ?_
 try dsimp only [putL, setL, evL, getL]
 replace H := headE H
 obtain ⟨u6, hu6, H⟩ := H
 refine HL_cons rfl ?_
 refine o_call (args := #[.slice A0p p0.length c0p, .slice A1p p1.length c1p]) Try.func215 rfl rfl rfl (impl_findAll.ok sb s3 no A0p c0p p0 A1p c1p p1 HRp0 HRp1 (Hp.own hH.bs) _ hu6) ?_
 rintro _ s6 ⟨A7, c7, rfl, hD⟩
 replace hH := hH.back0 hD (Up.refl _ _ _)
 clear hD
 dsimp only [addC, setC, rmC, selC, getC] at hH
 try dsimp only [putL, setL, evL, getL]
 refine HL_cons rfl ?_
 refine o_len rfl Try.underlying203 ?_
 try dsimp only [putL, setL, evL, getL]
 refine HL_cons rfl ?_
 refine o_move ?_
 try dsimp only [putL, setL, evL, getL]
 refine HL_nil ?_
 refine hK5 _ _ ?_
 refine joinH H fun G8 hG8 H => ?_
 refine HT_toK (fun l' s' => ∃ (x133 : List (List (Int))) (A133 : Option Addr) (c133 : Nat) (x134 : Int), G8 (x133, x134) = some r ∧ l' = [.slice A0p p0.length c0p, .slice A1p p1.length c1p, undef, undef, .slice none 0 0, .slice A133 x133.length c133, .int .i64 x134, undef, getL l' 8, .slice A3 ([] : List (List (Int))).length 0, .slice A0p p0.length c0p, .slice A1p p1.length c1p, .slice A7 u6.length c7, .int .i64 (u6.length : Int), getL l' 14, getL l' 15, getL l' 16, getL l' 17, getL l' 18, getL l' 19, getL l' 20, getL l' 21, getL l' 22, getL l' 23, getL l' 24, getL l' 25, getL l' 26, getL l' 27, getL l' 28, getL l' 29, undef, undef, undef, undef, undef, undef, undef] ∧ Hp sb s F0 s' [Ck.ol (Ow.sl OI 3) 24 A133 c133 x133]) ?_ ?_
 ·intro K8 hK8
  refine HT_block ?_
  refine HT_loopK (fun kf l' s' => ∃ (x174 : List (List (Int))) (A174 : Option Addr) (c174 : Nat) (x175 : Int) (x176 : Int), (impl_between.l1 p1 u6 kf x174 x175 x176).bind G8 = some r ∧ l' = [.slice A0p p0.length c0p, .slice A1p p1.length c1p, undef, undef, .slice none 0 0, .slice A174 x174.length c174, .int .i64 x175, undef, getL l' 8, .slice A3 ([] : List (List (Int))).length 0, .slice A0p p0.length c0p, .slice A1p p1.length c1p, .slice A7 u6.length c7, .int .i64 (u6.length : Int), .int .i64 x176, getL l' 15, getL l' 16, getL l' 17, getL l' 18, getL l' 19, getL l' 20, getL l' 21, getL l' 22, getL l' 23, getL l' 24, getL l' 25, getL l' 26, getL l' 27, getL l' 28, getL l' 29, undef, undef, undef, undef, undef, undef, undef] ∧ Hp sb s F0 s' [Ck.ol (Ow.sl OI 3) 24 A174 c174 x174, Ck.ol OS207 207 A7 c7 u6]) ((((u6.length : Int)) - (0)).toNat + 2) ⟨([] : List (List (Int))), A3, 0, 0, 0, H, rfl, hH⟩ ?_
  rintro kf l' s219 ⟨x174, A174, c174, x175, x176, H, hl, hH⟩ K219 hK219
  generalize getL l' 8 = j8, getL l' 15 = j15, getL l' 16 = j16, getL l' 17 = j17, getL l' 18 = j18, getL l' 19 = j19, getL l' 20 = j20, getL l' 21 = j21, getL l' 22 = j22, getL l' 23 = j23, getL l' 24 = j24, getL l' 25 = j25, getL l' 26 = j26, getL l' 27 = j27, getL l' 28 = j28, getL l' 29 = j29 at hl
  subst hl
  cases kf with
  | zero => simp [impl_between.l1] at H
  | succ kf =>
   rw [impl_between.l1] at H
   refine HT_seq_k ?_
   intro K220 hK220
   refine HT_region ?_
   refine HL_cons rfl ?_
   refine o_bin rfl rfl rfl ?_
   try dsimp only [putL, setL, evL, getL]
   refine HL_nil ?_
   refine hK220 _ _ ?_
   refine HT_seq_k ?_
   intro K221 hK221
   rcases Bool.eq_false_or_eq_true (decide (x176 < (u6.length : Int))) with hb222 | hb222
   ·replace H := iteT hb222 H
    refine HT_true (congrArg Value.bool hb222) ?_
    refine HT_skip ?_
    refine hK221 _ _ ?_
    refine joinH H fun G223 hG223 H => ?_
    refine HT_joinK (fun l' s' => ∃ (x240 : List (List (Int))) (A240 : Option Addr) (c240 : Nat) (x241 : Int), G223 (x240, x241) = some r ∧ l' = [.slice A0p p0.length c0p, .slice A1p p1.length c1p, undef, undef, .slice none 0 0, .slice A240 x240.length c240, .int .i64 x241, undef, getL l' 8, .slice A3 ([] : List (List (Int))).length 0, .slice A0p p0.length c0p, .slice A1p p1.length c1p, .slice A7 u6.length c7, .int .i64 (u6.length : Int), .int .i64 x176, .bool (decide (x176 < (u6.length : Int))), getL l' 16, getL l' 17, getL l' 18, getL l' 19, getL l' 20, getL l' 21, getL l' 22, getL l' 23, getL l' 24, getL l' 25, getL l' 26, getL l' 27, getL l' 28, j29, undef, undef, undef, undef, undef, undef, undef] ∧ Hp sb s F0 s' [Ck.ol (Ow.sl OI 3) 24 A240 c240 x240, Ck.ol OS207 207 A7 c7 u6]) ?_ ?_
    ·intro K223 hK223
     refine HT_block ?_
     refine HT_seq_k ?_
     intro K242 hK242
     refine HT_region ?_
     replace H := headE H
     obtain ⟨u243, hu243, H⟩ := H
     obtain ⟨b243, o243, cs243, hA243, hr243, hh243, hel243⟩ := hH.elo 1 rfl hu243
     obtain ⟨_, _, rfl, rfl, ⟨_, _, rfl, rfl, rfl⟩⟩ := hr243
     refine HL_cons rfl ?_
     refine hel243 s219 rfl rfl Try.underlying203 tI207 ?_
     try dsimp only [putL, setL, evL, getL]
     refine HL_cons rfl ?_
     refine o_loads' [.int .i64 u243.1, .int .i64 u243.2.1, .int .i64 u243.2.2] rfl Try.underlying207 rfl tI207 rfl (fun j v hj => hh243 j v hj) ?_
     try dsimp only [putL, setL, evL, getL]
     refine HL_cons rfl ?_
     refine o_allocH hH tI207 ?_
     intro b244 s244 hH' hG
     replace hH : Hp sb s F0 s244 [Ck.ol (Ow.sl OI 3) 24 A174 c174 x174, Ck.ol OS207 207 A7 c7 u6, Ck.ov b244 [.int .i64 0, .int .i64 0, .int .i64 0] 207] := hH'
     clear hH' hG
     try dsimp only [putL, setL, evL, getL]
     refine HL_cons rfl ?_
     refine o_stvH (vs := [.int .i64 u243.1, .int .i64 u243.2.1, .int .i64 u243.2.2]) (us' := [.int .i64 u243.1, .int .i64 u243.2.1, .int .i64 u243.2.2]) hH 2 rfl rfl rfl rfl rfl tI207 rfl (List.cons_ne_nil _ _) rfl rfl rfl ?_
     intro s245 hH'
     replace hH : Hp sb s F0 s245 [Ck.ol (Ow.sl OI 3) 24 A174 c174 x174, Ck.ol OS207 207 A7 c7 u6, Ck.ov b244 [.int .i64 u243.1, .int .i64 u243.2.1, .int .i64 u243.2.2] 207] := hH'
     clear hH'
     try dsimp only [putL, setL, evL, getL]
     refine HL_nil ?_
     refine hK242 _ _ ?_
     refine HX_draw hMix ?_
     refine HX_lim (R := fun _ => True) (k := 0) (fun s' => Gro s245 s') 8 ?_
     have hR := Gro.refl s245
     have hH0 := hH
     refine HK_readP 0 (v := .slice A174 x174.length c174) rfl (by kernel_rfl) (fun c l s h => hQp c l s h) rfl (fun s' K hK => ?_) rfl rfl (fun _ => hR) ?_
     ·refine o_move ?_
      exact hK
     try dsimp only [putL, setL, evL, getL]
     refine HK_readP 1 (v := .slice A1p p1.length c1p) rfl (by kernel_rfl) (fun c l s h => hQp c l s h) rfl (fun s' K hK => ?_) rfl rfl (fun _ => hR) ?_
     ·refine o_move ?_
      exact hK
     try dsimp only [putL, setL, evL, getL]
     refine HK_readP 2 (v := .int .i64 x175) rfl (by kernel_rfl) (fun c l s h => hQp c l s h) rfl (fun s' K hK => ?_) rfl rfl (fun _ => hR) ?_
     ·refine o_move ?_
      exact hK
     try dsimp only [putL, setL, evL, getL]
     refine HK_readP 3 (v := .pointer (some ⟨b244, 0 + 1, none⟩)) rfl (by kernel_rfl) (fun c l s h => hQp c l s h) rfl (fun s' K hK => ?_) rfl rfl (fun _ => hR) ?_
     ·refine o_faddr' (ft := 3) (off := 1) rfl Try.underlying207 rfl tI3 (by decide) ?_
      exact hK
     try dsimp only [putL, setL, evL, getL]
     refine HK_read 4 (v := .int .i64 u243.2.1) rfl (by kernel_rfl) (fun c l s h => hQp c l s h) rfl (fun s' hR' K hK => ?_) rfl rfl hR ?_
     ·refine o_load' rfl Try.underlying3 rfl (has_gro hR' (hH0.hasv 2 rfl rfl)) ?_
      exact hK
     try dsimp only [putL, setL, evL, getL]
     replace H := headE H
     obtain ⟨x246, hx246, H⟩ := H
     refine HK_readP 5 (v := .slice (cutA A1p c1p (Int.toNat x175) (Kd.sz KI)) x246.length (c1p - Int.toNat x175)) rfl (by kernel_rfl) (fun c l s h => hQp c l s h) rfl (fun s' K hK => ?_) rfl rfl (fun _ => hR) ?_
     ·refine o_cutA (xs := p1) (kl := .i64) (kh := .i64) (L := x175) (H := u243.2.1) rfl rfl rfl Try.underlying24 tI3 HRp1.1 hx246 ?_
      exact hK
     have D246 := HRp1.cut hx246
     try dsimp only [putL, setL, evL, getL]
     refine HK_readP 9 (v := .pointer (some ⟨b244, 0 + 2, none⟩)) rfl (by kernel_rfl) (fun c l s h => hQp c l s h) rfl (fun s' K hK => ?_) rfl rfl (fun _ => hR) ?_
     ·refine o_faddr' (ft := 3) (off := 2) rfl Try.underlying207 rfl tI3 (by decide) ?_
      exact hK
     try dsimp only [putL, setL, evL, getL]
     refine HK_more [6, 10] (by kernel_rfl) rfl (fun _ => hR) ⟨⟨_, rfl, Or.inl ⟨rfl, ?_⟩⟩, ⟨_, rfl, Or.inl ⟨rfl, ?_⟩⟩, trivial⟩
     ·replace H := headE H
      obtain ⟨u247, hu247, H⟩ := H
      skip
      refine o_call (args := #[.slice (cutA A1p c1p (Int.toNat x175) (Kd.sz KI)) x246.length (c1p - Int.toNat x175)]) Try.func141 rfl rfl rfl (slices_Clone_int_int.ok sb s245 no (cutA A1p c1p (Int.toNat x175) (Kd.sz KI)) (c1p - Int.toNat x175) x246 D246 (Hp.own hH.bs) _ hu247) ?_
      rintro _ s247 ⟨A248, c248, rfl, hD⟩
      replace hR := hR.trans hD.gro
      replace hH := hH.back0 hD (Up.refl _ _ _)
      clear hD
      dsimp only [addC, setC, rmC, selC, getC] at hH
      try dsimp only [putL, setL, evL, getL]
      refine HK_more [7, 10] (by kernel_rfl) rfl (fun _ => hR) ⟨⟨_, rfl, Or.inl ⟨rfl, ?_⟩⟩, ⟨_, rfl, Or.inl ⟨rfl, ?_⟩⟩, trivial⟩
      ·replace hH := hH.conv [3] (by decide) (d := Ck.el (Ow.sl OI 3) [.slice A248 u247.length c248] u247) Ent.sl
       dsimp only [addC, setC, rmC, selC, getC] at hH
       skip
       refine o_litD (K := (Kd.sl KI)) (O := (Ow.sl OI 3)) (ca := #[.slice A248 u247.length c248]) [[.slice A248 u247.length c248]] [u247] hH [4] (by decide) rfl Try.underlying105 tI24 rfl (by decide) rfl rfl rfl rfl (by kernel_rfl) rfl ?_
       intro A249 s249 hH' hG
       replace hR := hR.trans hG
       replace hH : Hp sb s F0 s249 [Ck.ol (Ow.sl OI 3) 24 A174 c174 x174, Ck.ol OS207 207 A7 c7 u6, Ck.ov b244 [.int .i64 u243.1, .int .i64 u243.2.1, .int .i64 u243.2.2] 207, Ck.emp, Ck.emp, Ck.ol (Ow.sl OI 3) 24 A249 1 [u247]] := hH'
       clear hH' hG
       try dsimp only [putL, setL, evL, getL]
       refine HK_more [8, 10] (by kernel_rfl) rfl (fun _ => hR) ⟨⟨_, rfl, Or.inl ⟨rfl, ?_⟩⟩, ⟨_, rfl, Or.inl ⟨rfl, ?_⟩⟩, trivial⟩
       ·replace H := headE H
        obtain ⟨x250, hx250, H⟩ := H
        skip
        refine o_appD (K := (Kd.sl KI)) (n := 5864062014805) (A := A174) (c := c174) (xs := x174) (ys := [u247]) (B := A249) (c2 := 1) hH 0 5 (by decide) rfl rfl rfl rfl rfl Try.underlying105 tI24 rfl (by decide) (by decide) (by decide) hx250 ?_
        intro A250 c250 s250 hH'
        replace hH : Hp sb s F0 s250 [Ck.ol (Ow.sl OI 3) 24 A250 c250 x250, Ck.ol OS207 207 A7 c7 u6, Ck.ov b244 [.int .i64 u243.1, .int .i64 u243.2.1, .int .i64 u243.2.2] 207, Ck.emp, Ck.emp, Ck.emp] := hH'
        clear hH'
        try dsimp only [putL, setL, evL, getL]
        refine HK_free (by kernel_rfl) ?_
        refine HX_lim (R := fun _ => True) (k := 0) (fun s' => Gro s250 s') 14 ?_
        have hR := Gro.refl s250
        have hH0 := hH
        refine HK_read 10 (v := .int .i64 u243.2.2) rfl (by kernel_rfl) (fun c l s h => hQp c l s h) rfl (fun s' hR' K hK => ?_) rfl rfl hR ?_
        ·refine o_load' rfl Try.underlying3 rfl (has_gro hR' (hH0.hasv 2 rfl rfl)) ?_
         exact hK
        try dsimp only [putL, setL, evL, getL]
        refine HK_more [11] (by kernel_rfl) rfl (fun _ => hR) ⟨⟨_, rfl, Or.inl ⟨rfl, ?_⟩⟩, trivial⟩
        skip
        refine o_assign ?_
        try dsimp only [putL, setL, evL, getL]
        refine HK_more [12] (by kernel_rfl) rfl (fun _ => hR) ⟨⟨_, rfl, Or.inl ⟨rfl, ?_⟩⟩, trivial⟩
        skip
        refine o_assign ?_
        try dsimp only [putL, setL, evL, getL]
        refine HK_done (fun _ => hR) (by kernel_rfl) ?_
        exact hK223 _ _ ⟨x250, A250, c250, u243.2.2, H, rfl, hH.sel [0, 1] (by decide)⟩
       ·skip
        refine o_load' rfl Try.underlying3 rfl (hH.hasv 2 rfl rfl) ?_
        try dsimp only [putL, setL, evL, getL]
        refine HK_more [8] (by kernel_rfl) rfl (fun _ => hR) ⟨⟨_, rfl, Or.inl ⟨rfl, ?_⟩⟩, trivial⟩
        replace H := headE H
        obtain ⟨x251, hx251, H⟩ := H
        skip
        refine o_appD (K := (Kd.sl KI)) (n := 5864062014805) (A := A174) (c := c174) (xs := x174) (ys := [u247]) (B := A249) (c2 := 1) hH 0 5 (by decide) rfl rfl rfl rfl rfl Try.underlying105 tI24 rfl (by decide) (by decide) (by decide) hx251 ?_
        intro A251 c251 s251 hH'
        replace hH : Hp sb s F0 s251 [Ck.ol (Ow.sl OI 3) 24 A251 c251 x251, Ck.ol OS207 207 A7 c7 u6, Ck.ov b244 [.int .i64 u243.1, .int .i64 u243.2.1, .int .i64 u243.2.2] 207, Ck.emp, Ck.emp, Ck.emp] := hH'
        clear hH'
        try dsimp only [putL, setL, evL, getL]
        refine HK_free (by kernel_rfl) ?_
        refine HX_lim (R := fun _ => True) (k := 0) (fun s' => Gro s251 s') 14 ?_
        have hR := Gro.refl s251
        have hH0 := hH
        refine HK_more [11] (by kernel_rfl) rfl (fun _ => hR) ⟨⟨_, rfl, Or.inl ⟨rfl, ?_⟩⟩, trivial⟩
        skip
        refine o_assign ?_
        try dsimp only [putL, setL, evL, getL]
        refine HK_more [12] (by kernel_rfl) rfl (fun _ => hR) ⟨⟨_, rfl, Or.inl ⟨rfl, ?_⟩⟩, trivial⟩
        skip
        refine o_assign ?_
        try dsimp only [putL, setL, evL, getL]
        refine HK_done (fun _ => hR) (by kernel_rfl) ?_
        exact hK223 _ _ ⟨x251, A251, c251, u243.2.2, H, rfl, hH.sel [0, 1] (by decide)⟩
      ·skip
       refine o_load' rfl Try.underlying3 rfl (hH.hasv 2 rfl rfl) ?_
       try dsimp only [putL, setL, evL, getL]
       refine HK_more [7] (by kernel_rfl) rfl (fun _ => hR) ⟨⟨_, rfl, Or.inl ⟨rfl, ?_⟩⟩, trivial⟩
       replace hH := hH.conv [3] (by decide) (d := Ck.el (Ow.sl OI 3) [.slice A248 u247.length c248] u247) Ent.sl
       dsimp only [addC, setC, rmC, selC, getC] at hH
       skip
       refine o_litD (K := (Kd.sl KI)) (O := (Ow.sl OI 3)) (ca := #[.slice A248 u247.length c248]) [[.slice A248 u247.length c248]] [u247] hH [4] (by decide) rfl Try.underlying105 tI24 rfl (by decide) rfl rfl rfl rfl (by kernel_rfl) rfl ?_
       intro A252 s252 hH' hG
       replace hR := hR.trans hG
       replace hH : Hp sb s F0 s252 [Ck.ol (Ow.sl OI 3) 24 A174 c174 x174, Ck.ol OS207 207 A7 c7 u6, Ck.ov b244 [.int .i64 u243.1, .int .i64 u243.2.1, .int .i64 u243.2.2] 207, Ck.emp, Ck.emp, Ck.ol (Ow.sl OI 3) 24 A252 1 [u247]] := hH'
       clear hH' hG
       try dsimp only [putL, setL, evL, getL]
       refine HK_more [8] (by kernel_rfl) rfl (fun _ => hR) ⟨⟨_, rfl, Or.inl ⟨rfl, ?_⟩⟩, trivial⟩
       replace H := headE H
       obtain ⟨x253, hx253, H⟩ := H
       skip
       refine o_appD (K := (Kd.sl KI)) (n := 5864062014805) (A := A174) (c := c174) (xs := x174) (ys := [u247]) (B := A252) (c2 := 1) hH 0 5 (by decide) rfl rfl rfl rfl rfl Try.underlying105 tI24 rfl (by decide) (by decide) (by decide) hx253 ?_
       intro A253 c253 s253 hH'
       replace hH : Hp sb s F0 s253 [Ck.ol (Ow.sl OI 3) 24 A253 c253 x253, Ck.ol OS207 207 A7 c7 u6, Ck.ov b244 [.int .i64 u243.1, .int .i64 u243.2.1, .int .i64 u243.2.2] 207, Ck.emp, Ck.emp, Ck.emp] := hH'
       clear hH'
       try dsimp only [putL, setL, evL, getL]
       refine HK_free (by kernel_rfl) ?_
       refine HX_lim (R := fun _ => True) (k := 0) (fun s' => Gro s253 s') 14 ?_
       have hR := Gro.refl s253
       have hH0 := hH
       refine HK_more [11] (by kernel_rfl) rfl (fun _ => hR) ⟨⟨_, rfl, Or.inl ⟨rfl, ?_⟩⟩, trivial⟩
       skip
       refine o_assign ?_
       try dsimp only [putL, setL, evL, getL]
       refine HK_more [12] (by kernel_rfl) rfl (fun _ => hR) ⟨⟨_, rfl, Or.inl ⟨rfl, ?_⟩⟩, trivial⟩
       skip
       refine o_assign ?_
       try dsimp only [putL, setL, evL, getL]
       refine HK_done (fun _ => hR) (by kernel_rfl) ?_
       exact hK223 _ _ ⟨x253, A253, c253, u243.2.2, H, rfl, hH.sel [0, 1] (by decide)⟩
     ·skip
      refine o_load' rfl Try.underlying3 rfl (hH.hasv 2 rfl rfl) ?_
      try dsimp only [putL, setL, evL, getL]
      refine HK_more [6] (by kernel_rfl) rfl (fun _ => hR) ⟨⟨_, rfl, Or.inl ⟨rfl, ?_⟩⟩, trivial⟩
      replace H := headE H
      obtain ⟨u254, hu254, H⟩ := H
      skip
      refine o_call (args := #[.slice (cutA A1p c1p (Int.toNat x175) (Kd.sz KI)) x246.length (c1p - Int.toNat x175)]) Try.func141 rfl rfl rfl (slices_Clone_int_int.ok sb s245 no (cutA A1p c1p (Int.toNat x175) (Kd.sz KI)) (c1p - Int.toNat x175) x246 D246 (Hp.own hH.bs) _ hu254) ?_
      rintro _ s254 ⟨A255, c255, rfl, hD⟩
      replace hR := hR.trans hD.gro
      replace hH := hH.back0 hD (Up.refl _ _ _)
      clear hD
      dsimp only [addC, setC, rmC, selC, getC] at hH
      try dsimp only [putL, setL, evL, getL]
      refine HK_more [7] (by kernel_rfl) rfl (fun _ => hR) ⟨⟨_, rfl, Or.inl ⟨rfl, ?_⟩⟩, trivial⟩
      replace hH := hH.conv [3] (by decide) (d := Ck.el (Ow.sl OI 3) [.slice A255 u254.length c255] u254) Ent.sl
      dsimp only [addC, setC, rmC, selC, getC] at hH
      skip
      refine o_litD (K := (Kd.sl KI)) (O := (Ow.sl OI 3)) (ca := #[.slice A255 u254.length c255]) [[.slice A255 u254.length c255]] [u254] hH [4] (by decide) rfl Try.underlying105 tI24 rfl (by decide) rfl rfl rfl rfl (by kernel_rfl) rfl ?_
      intro A256 s256 hH' hG
      replace hR := hR.trans hG
      replace hH : Hp sb s F0 s256 [Ck.ol (Ow.sl OI 3) 24 A174 c174 x174, Ck.ol OS207 207 A7 c7 u6, Ck.ov b244 [.int .i64 u243.1, .int .i64 u243.2.1, .int .i64 u243.2.2] 207, Ck.emp, Ck.emp, Ck.ol (Ow.sl OI 3) 24 A256 1 [u254]] := hH'
      clear hH' hG
      try dsimp only [putL, setL, evL, getL]
      refine HK_more [8] (by kernel_rfl) rfl (fun _ => hR) ⟨⟨_, rfl, Or.inl ⟨rfl, ?_⟩⟩, trivial⟩
      replace H := headE H
      obtain ⟨x257, hx257, H⟩ := H
      skip
      refine o_appD (K := (Kd.sl KI)) (n := 5864062014805) (A := A174) (c := c174) (xs := x174) (ys := [u254]) (B := A256) (c2 := 1) hH 0 5 (by decide) rfl rfl rfl rfl rfl Try.underlying105 tI24 rfl (by decide) (by decide) (by decide) hx257 ?_
      intro A257 c257 s257 hH'
      replace hH : Hp sb s F0 s257 [Ck.ol (Ow.sl OI 3) 24 A257 c257 x257, Ck.ol OS207 207 A7 c7 u6, Ck.ov b244 [.int .i64 u243.1, .int .i64 u243.2.1, .int .i64 u243.2.2] 207, Ck.emp, Ck.emp, Ck.emp] := hH'
      clear hH'
      try dsimp only [putL, setL, evL, getL]
      refine HK_free (by kernel_rfl) ?_
      refine HX_lim (R := fun _ => True) (k := 0) (fun s' => Gro s257 s') 14 ?_
      have hR := Gro.refl s257
      have hH0 := hH
      refine HK_more [11] (by kernel_rfl) rfl (fun _ => hR) ⟨⟨_, rfl, Or.inl ⟨rfl, ?_⟩⟩, trivial⟩
      skip
      refine o_assign ?_
      try dsimp only [putL, setL, evL, getL]
      refine HK_more [12] (by kernel_rfl) rfl (fun _ => hR) ⟨⟨_, rfl, Or.inl ⟨rfl, ?_⟩⟩, trivial⟩
      skip
      refine o_assign ?_
      try dsimp only [putL, setL, evL, getL]
      refine HK_done (fun _ => hR) (by kernel_rfl) ?_
      exact hK223 _ _ ⟨x257, A257, c257, u243.2.2, H, rfl, hH.sel [0, 1] (by decide)⟩
    ·rintro l' s258 ⟨x240, A240, c240, x241, H, hl, hH⟩
     generalize getL l' 8 = j8, getL l' 16 = j16, getL l' 17 = j17, getL l' 18 = j18, getL l' 19 = j19, getL l' 20 = j20, getL l' 21 = j21, getL l' 22 = j22, getL l' 23 = j23, getL l' 24 = j24, getL l' 25 = j25, getL l' 26 = j26, getL l' 27 = j27, getL l' 28 = j28 at hl
     subst hl
     replace H := hG223 _ H
     try dsimp only at H
     refine HT_region ?_
     refine HL_cons rfl ?_
     refine o_bin rfl rfl rfl ?_
     try dsimp only [putL, setL, evL, getL]
     refine HL_cons rfl ?_
     refine o_move ?_
     try dsimp only [putL, setL, evL, getL]
     refine HL_nil ?_
     exact hK219 _ _ ⟨kf, Nat.lt_succ_self kf, x240, A240, c240, x241, IntKind.i64.wrap (x176 + 1), H, rfl, hH⟩
   ·replace H := iteF hb222 H
    refine HT_false (congrArg Value.bool hb222) ?_
    refine HT_exit ?_
    exact hK8 _ _ ⟨x174, A174, c174, x175, H, rfl, hH.sel [0] (by decide)⟩
 ·rintro l' s259 ⟨x133, A133, c133, x134, H, hl, hH⟩
  generalize getL l' 8 = j8, getL l' 14 = j14, getL l' 15 = j15, getL l' 16 = j16, getL l' 17 = j17, getL l' 18 = j18, getL l' 19 = j19, getL l' 20 = j20, getL l' 21 = j21, getL l' 22 = j22, getL l' 23 = j23, getL l' 24 = j24, getL l' 25 = j25, getL l' 26 = j26, getL l' 27 = j27, getL l' 28 = j28, getL l' 29 = j29 at hl
  subst hl
  replace H := hG8 _ H
  try dsimp only at H
  refine hK4 _ _ ?_
  refine HT_seq_k ?_
  intro K260 hK260
  refine HT_region ?_
  refine HL_cons rfl ?_
  refine o_move ?_
  try dsimp only [putL, setL, evL, getL]
  refine HL_cons rfl ?_
  refine o_move ?_
  try dsimp only [putL, setL, evL, getL]
  refine HL_cons rfl ?_
  refine o_move ?_
  try dsimp only [putL, setL, evL, getL]
  replace H := headE H
  obtain ⟨x261, hx261, H⟩ := H
  refine HL_cons rfl ?_
  refine o_cutA (xs := p1) (kl := .i64) (kh := .i64) (L := x134) (H := (p1.length : Int)) rfl rfl rfl Try.underlying24 tI3 HRp1.1 hx261 ?_
  have D261 := HRp1.cut hx261
  try dsimp only [putL, setL, evL, getL]
  replace H := headE H
  obtain ⟨u262, hu262, H⟩ := H
  refine HL_cons rfl ?_
  refine o_call (args := #[.slice (cutA A1p c1p (Int.toNat x134) (Kd.sz KI)) x261.length (c1p - Int.toNat x134)]) Try.func141 rfl rfl rfl (slices_Clone_int_int.ok sb s259 no (cutA A1p c1p (Int.toNat x134) (Kd.sz KI)) (c1p - Int.toNat x134) x261 D261 (Hp.own hH.bs) _ hu262) ?_
  rintro _ s262 ⟨A263, c263, rfl, hD⟩
  replace hH := hH.back0 hD (Up.refl _ _ _)
  clear hD
  dsimp only [addC, setC, rmC, selC, getC] at hH
  try dsimp only [putL, setL, evL, getL]
  replace hH := hH.conv [1] (by decide) (d := Ck.el (Ow.sl OI 3) [.slice A263 u262.length c263] u262) Ent.sl
  dsimp only [addC, setC, rmC, selC, getC] at hH
  refine HL_cons rfl ?_
  refine o_litD (K := (Kd.sl KI)) (O := (Ow.sl OI 3)) (ca := #[.slice A263 u262.length c263]) [[.slice A263 u262.length c263]] [u262] hH [2] (by decide) rfl Try.underlying105 tI24 rfl (by decide) rfl rfl rfl rfl (by kernel_rfl) rfl ?_
  intro A264 s264 hH' hG
  replace hH : Hp sb s F0 s264 [Ck.ol (Ow.sl OI 3) 24 A133 c133 x133, Ck.emp, Ck.emp, Ck.ol (Ow.sl OI 3) 24 A264 1 [u262]] := hH'
  clear hH' hG
  try dsimp only [putL, setL, evL, getL]
  replace H := headE H
  obtain ⟨x265, hx265, H⟩ := H
  refine HL_cons rfl ?_
  refine o_appD (K := (Kd.sl KI)) (n := 5864062014805) (A := A133) (c := c133) (xs := x133) (ys := [u262]) (B := A264) (c2 := 1) hH 0 3 (by decide) rfl rfl rfl rfl rfl Try.underlying105 tI24 rfl (by decide) (by decide) (by decide) hx265 ?_
  intro A265 c265 s265 hH'
  replace hH : Hp sb s F0 s265 [Ck.ol (Ow.sl OI 3) 24 A265 c265 x265, Ck.emp, Ck.emp, Ck.emp] := hH'
  clear hH'
  try dsimp only [putL, setL, evL, getL]
  refine HL_cons rfl ?_
  refine o_assign ?_
  try dsimp only [putL, setL, evL, getL]
  refine HL_nil ?_
  refine hK260 _ _ ?_
  refine HT_ret ?_
  exact hQr _ _ [.slice A265 x265.length c265] ⟨rfl, trivial⟩ (retH (fun r => impl_between.post sb s F0 r _ _) (show some _ = some r from H) ⟨A265, c265, rfl, hH.sel [0] (by decide)⟩)
def impl_ReplaceIn.l1 (p2 : List (Int)) (u30 : (List (List (Int)))) : Nat → (List (Int)) → Int → Option (List (Int))
 | 0, _, _ => none
 | kf + 1, x163, x164 => if (decide (x164 < (u30.length : Int))) = true then ((rd? u30 x164).bind fun u218 => (if (decide (x164 > 0)) = true then ((app? 17592186044416 x163 p2).bind fun x227 => some x227) else (some x163)).bind fun (o : (List (Int))) => match o with | x224 => ((app? 17592186044416 x224 u218).bind fun x229 => impl_ReplaceIn.l1 p2 u30 kf x229 (IntKind.i64.wrap (x164 + 1)))) else (some x163)
def impl_ReplaceIn.f (p0 : List ((Int) × (List (Int)))) (p1 : List (Int)) (p2 : List (Int)) : Option ((List (Int)) × Bool) := ((impl_canParse.f p0 p1).bind fun u20 => if (!u20) = true then (some true) else ((impl_areRunes.f p2 40).bind fun u22 => some (!u22))).bind fun (o : Bool) => match o with | x19 => (if x19 = true then (some ([], false)) else ((impl_between.f p0 p1).bind fun u30 => (impl_ReplaceIn.l1 p2 u30 ((((u30.length : Int)) - (0)).toNat + 2) ([] : List (Int)) 0).bind fun (o : (List (Int))) => match o with | x131 => (if (decide ((x131.length : Int) > 120)) = true then (some ([], false)) else (some (x131, true)))))
def impl_ReplaceIn.post (sb s : St) (F0 : Fp) (r : (List (Int)) × Bool) : Value → St → Prop := fun v s' => ∃ (A0 : Option Addr) (c0 : Nat), v = .tuple #[.slice A0 r.1.length c0, .bool r.2] ∧ Hp sb s F0 s' [Ck.ol OI 3 A0 c0 r.1]
set_option maxRecDepth 100000 in
set_option maxHeartbeats 4000000 in
theorem impl_ReplaceIn.ok (sb s : St) (F0 : Fp) (A0p : Option Addr) (c0p : Nat) (p0 : List ((Int) × (List (Int)))) (A1p : Option Addr) (c1p : Nat) (p1 : List (Int)) (A2p : Option Addr) (c2p : Nat) (p2 : List (Int)) (HRp0 : Rd KS139 sb A0p c0p p0) (HRp1 : Rd KI sb A1p c1p p1) (HRp2 : Rd KI sb A2p c2p p2) (hH : Hp sb s F0 s []) (r : (List (Int)) × Bool) (H : impl_ReplaceIn.f p0 p1 p2 = some r) : GCall Try.prog 88 #[.slice A0p p0.length c0p, .slice A1p p1.length c1p, .slice A2p p2.length c2p] s (impl_ReplaceIn.post sb s F0 r) := by
 refine GCall_ofk [.tmp 6, .tmp 7] [.slice A0p p0.length c0p, .slice A1p p1.length c1p, .slice A2p p2.length c2p, undef, undef, undef, undef, undef, undef, undef, undef, undef, undef, undef, undef, undef, undef, undef, undef, undef, undef, undef, undef, undef, undef, undef, undef, undef, undef, undef, undef, undef, undef, undef, undef, undef, undef, undef, undef, undef, undef, undef, undef] Try.func88 rfl rfl rfl ?_
 intro w Q hQr hQn hQp
 replace H := topE H
 unfold impl_ReplaceIn.f at H
 refine HT_seq_k ?_
 intro K1 hK1
 refine HT_region ?_
 refine HL_cons rfl ?_
 refine o_assign ?_
 try dsimp only [putL, setL, evL, getL]
 refine HL_cons rfl ?_
 refine o_assign ?_
 try dsimp only [putL, setL, evL, getL]
 refine HL_nil ?_
 refine hK1 _ _ ?_
 refine HT_seq_k ?_
 intro K14 hK14
 refine joinH H fun G15 hG15 H => ?_
 refine HT_joinK (fun l' s' => ∃ (x19 : Bool), G15 x19 = some r ∧ l' = [.slice A0p p0.length c0p, .slice A1p p1.length c1p, .slice A2p p2.length c2p, undef, undef, undef, .slice none 0 0, .bool false, undef, undef, undef, getL l' 11, getL l' 12, getL l' 13, getL l' 14, getL l' 15, getL l' 16, getL l' 17, getL l' 18, .bool x19, undef, undef, undef, undef, undef, undef, undef, undef, undef, undef, undef, undef, undef, undef, undef, undef, undef, undef, undef, undef, undef, undef, undef] ∧ Hp sb s F0 s' []) ?_ ?_
 ·intro K15 hK15
  refine HT_region ?_
  refine HL_cons rfl ?_
  refine o_move ?_
  try dsimp only [putL, setL, evL, getL]
  refine HL_cons rfl ?_
  refine o_move ?_
  try dsimp only [putL, setL, evL, getL]
  replace H := headE H
  obtain ⟨u20, hu20, H⟩ := H
  refine HL_cons rfl ?_
  refine o_call (args := #[.slice A0p p0.length c0p, .slice A1p p1.length c1p]) Try.func152 rfl rfl rfl (impl_canParse.ok sb s no A0p c0p p0 A1p c1p p1 HRp0 HRp1 (Hp.own hH.bs) _ hu20) ?_
  rintro _ s20 ⟨rfl, hD⟩
  replace hH := hH.back0 hD (Up.refl _ _ _)
  clear hD
  dsimp only [addC, setC, rmC, selC, getC] at hH
  try dsimp only [putL, setL, evL, getL]
  refine HL_cons rfl ?_
  refine o_not rfl ?_
  try dsimp only [putL, setL, evL, getL]
  refine HL_cons rfl ?_
  refine o_move ?_
  try dsimp only [putL, setL, evL, getL]
  rcases Bool.eq_false_or_eq_true (!u20) with hb21 | hb21
  ·replace H := iteT hb21 H
   refine HL_skip ?_ ?_
   ·exact wantF (j := 4) (b := false) (t := 15) (c := !u20) rfl rfl rfl rfl hb21
   try dsimp only [putL, setL, evL, getL]
   refine HL_skip ?_ ?_
   ·exact wantF (j := 4) (b := false) (t := 15) (c := !u20) rfl rfl rfl rfl hb21
   try dsimp only [putL, setL, evL, getL]
   refine HL_skip ?_ ?_
   ·exact wantF (j := 4) (b := false) (t := 15) (c := !u20) rfl rfl rfl rfl hb21
   try dsimp only [putL, setL, evL, getL]
   refine HL_cons rfl ?_
   refine o_pickT rfl hb21 ?_
   try dsimp only [putL, setL, evL, getL]
   refine HL_nil ?_
   exact hK15 _ _ ⟨true, H, rfl, hH⟩
  ·replace H := iteF hb21 H
   refine HL_want ?_ ?_
   ·exact wantT (j := 4) (b := false) (t := 15) (c := !u20) rfl rfl rfl rfl hb21
   refine o_move ?_
   try dsimp only [putL, setL, evL, getL]
   replace H := headE H
   obtain ⟨u22, hu22, H⟩ := H
   refine HL_want ?_ ?_
   ·exact wantT (j := 4) (b := false) (t := 15) (c := !u20) rfl rfl rfl rfl hb21
   refine o_call (args := #[.slice A2p p2.length c2p, .int .i64 40]) Try.func118 rfl rfl rfl (impl_areRunes.ok sb s20 no A2p c2p p2 40 HRp2 (Hp.own hH.bs) _ hu22) ?_
   rintro _ s22 ⟨rfl, hD⟩
   replace hH := hH.back0 hD (Up.refl _ _ _)
   clear hD
   dsimp only [addC, setC, rmC, selC, getC] at hH
   try dsimp only [putL, setL, evL, getL]
   refine HL_want ?_ ?_
   ·exact wantT (j := 4) (b := false) (t := 15) (c := !u20) rfl rfl rfl rfl hb21
   refine o_not rfl ?_
   try dsimp only [putL, setL, evL, getL]
   refine HL_cons rfl ?_
   refine o_pickF rfl hb21 ?_
   try dsimp only [putL, setL, evL, getL]
   refine HL_nil ?_
   exact hK15 _ _ ⟨!u22, H, rfl, hH⟩
 ·rintro l' s23 ⟨x19, H, hl, hH⟩
  generalize getL l' 11 = j11, getL l' 12 = j12, getL l' 13 = j13, getL l' 14 = j14, getL l' 15 = j15, getL l' 16 = j16, getL l' 17 = j17, getL l' 18 = j18 at hl
  subst hl
  replace H := hG15 _ H
  try dsimp only at H
  rcases Bool.eq_false_or_eq_true x19 with hb24 | hb24
  ·replace H := iteT hb24 H
   refine HT_true (congrArg Value.bool hb24) ?_
   refine HT_seq_k ?_
   intro K25 hK25
   refine HT_region ?_
   refine HL_cons rfl ?_
   refine o_assign ?_
   try dsimp only [putL, setL, evL, getL]
   refine HL_cons rfl ?_
   refine o_assign ?_
   try dsimp only [putL, setL, evL, getL]
   refine HL_nil ?_
   refine hK25 _ _ ?_
   refine HT_ret ?_
   exact hQr _ _ [.slice none 0 0, .bool false] ⟨rfl, rfl, trivial⟩ (retH (fun r => impl_ReplaceIn.post sb s F0 r _ _) (show some _ = some r from H) ⟨none, 0, rfl, (hH.nil (K := KI) OI 3)⟩)
  ·replace H := iteF hb24 H
   refine HT_false (congrArg Value.bool hb24) ?_
   refine HT_skip ?_
   refine hK14 _ _ ?_
   refine HT_seq_k ?_
   intro K26 hK26
   refine HT_region ?_
   refine HL_cons rfl ?_
   refine o_lit0H (α := Int) (K := KI) (O := OI) hH Try.underlying24 tI3 ?_
   intro A27 s27 hH' hG
   replace hH : Hp sb s F0 s27 [Ck.ol OI 3 A27 0 ([] : List (Int))] := hH'
   clear hH' hG
   try dsimp only [putL, setL, evL, getL]
   refine HL_cons rfl ?_
   refine o_assign ?_
   try dsimp only [putL, setL, evL, getL]
   refine HL_nil ?_
   refine hK26 _ _ ?_
   refine HT_seq_k ?_
   intro K28 hK28
   refine HT_seq_k ?_
   intro K29 hK29
   refine HT_region ?_
   refine HL_cons rfl ?_
   refine o_move ?_
   try dsimp only [putL, setL, evL, getL]
   refine HL_cons rfl ?_
   refine o_move ?_
   try dsimp only [putL, setL, evL, getL]
   replace H := headE H
   obtain ⟨u30, hu30, H⟩ := H
   refine HL_cons rfl ?_
   refine o_call (args := #[.slice A0p p0.length c0p, .slice A1p p1.length c1p]) Try.func173 rfl rfl rfl (impl_between.ok sb s27 no A0p c0p p0 A1p c1p p1 HRp0 HRp1 (Hp.own hH.bs) _ hu30) ?_
   rintro _ s30 ⟨A31, c31, rfl, hD⟩
   replace hH := hH.back0 hD (Up.refl _ _ _)
   clear hD
   dsimp only [addC, setC, rmC, selC, getC] at hH
   try dsimp only [putL, setL, evL, getL]
   refine HL_cons rfl ?_
   refine o_len rfl Try.underlying105 ?_
   try dsimp only [putL, setL, evL, getL]
   refine HL_cons rfl ?_
   refine o_move ?_
   try dsimp only [putL, setL, evL, getL]
   refine HL_nil ?_
   refine hK29 _ _ ?_
   refine joinH H fun G32 hG32 H => ?_
   refine HT_toK (fun l' s' => ∃ (x131 : List (Int)) (A131 : Option Addr) (c131 : Nat), G32 x131 = some r ∧ l' = [.slice A0p p0.length c0p, .slice A1p p1.length c1p, .slice A2p p2.length c2p, undef, undef, undef, .slice none 0 0, .bool false, .slice A131 x131.length c131, getL l' 9, getL l' 10, j11, j12, j13, j14, j15, j16, j17, j18, .bool x19, .slice A27 ([] : List (Int)).length 0, .slice A0p p0.length c0p, .slice A1p p1.length c1p, .slice A31 u30.length c31, .int .i64 (u30.length : Int), getL l' 25, getL l' 26, getL l' 27, getL l' 28, getL l' 29, getL l' 30, getL l' 31, getL l' 32, getL l' 33, getL l' 34, getL l' 35, getL l' 36, getL l' 37, getL l' 38, undef, undef, undef, undef] ∧ Hp sb s F0 s' [Ck.ol OI 3 A131 c131 x131]) ?_ ?_
   ·intro K32 hK32
    refine HT_block ?_
    refine HT_loopK (fun kf l' s' => ∃ (x163 : List (Int)) (A163 : Option Addr) (c163 : Nat) (x164 : Int), (impl_ReplaceIn.l1 p2 u30 kf x163 x164).bind G32 = some r ∧ l' = [.slice A0p p0.length c0p, .slice A1p p1.length c1p, .slice A2p p2.length c2p, undef, undef, undef, .slice none 0 0, .bool false, .slice A163 x163.length c163, getL l' 9, getL l' 10, j11, j12, j13, j14, j15, j16, j17, j18, .bool x19, .slice A27 ([] : List (Int)).length 0, .slice A0p p0.length c0p, .slice A1p p1.length c1p, .slice A31 u30.length c31, .int .i64 (u30.length : Int), .int .i64 x164, getL l' 26, getL l' 27, getL l' 28, getL l' 29, getL l' 30, getL l' 31, getL l' 32, getL l' 33, getL l' 34, getL l' 35, getL l' 36, getL l' 37, getL l' 38, undef, undef, undef, undef] ∧ Hp sb s F0 s' [Ck.ol OI 3 A163 c163 x163, Ck.ol (Ow.sl OI 3) 24 A31 c31 u30]) ((((u30.length : Int)) - (0)).toNat + 2) ⟨([] : List (Int)), A27, 0, 0, H, rfl, hH⟩ ?_
    rintro kf l' s198 ⟨x163, A163, c163, x164, H, hl, hH⟩ K198 hK198
    generalize getL l' 9 = j9, getL l' 10 = j10, getL l' 26 = j26, getL l' 27 = j27, getL l' 28 = j28, getL l' 29 = j29, getL l' 30 = j30, getL l' 31 = j31, getL l' 32 = j32, getL l' 33 = j33, getL l' 34 = j34, getL l' 35 = j35, getL l' 36 = j36, getL l' 37 = j37, getL l' 38 = j38 at hl
    subst hl
    cases kf with
    | zero => simp [impl_ReplaceIn.l1] at H
    | succ kf =>
     rw [impl_ReplaceIn.l1] at H
     refine HT_seq_k ?_
     intro K199 hK199
     refine HT_region ?_
     refine HL_cons rfl ?_
     refine o_bin rfl rfl rfl ?_
     try dsimp only [putL, setL, evL, getL]
     refine HL_nil ?_
     refine hK199 _ _ ?_
     refine HT_seq_k ?_
     intro K200 hK200
     rcases Bool.eq_false_or_eq_true (decide (x164 < (u30.length : Int))) with hb201 | hb201
     ·replace H := iteT hb201 H
      refine HT_true (congrArg Value.bool hb201) ?_
      refine HT_skip ?_
      refine hK200 _ _ ?_
      refine HT_seq_k ?_
      intro K216 hK216
      refine HT_block ?_
      refine HT_seq_k ?_
      intro K217 hK217
      refine HT_region ?_
      refine HL_cons rfl ?_
      refine o_move ?_
      try dsimp only [putL, setL, evL, getL]
      replace H := headE H
      obtain ⟨u218, hu218, H⟩ := H
      obtain ⟨b218, o218, vs218, hA218, -, hH⟩ := hH.open 1 rfl rfl hu218
      dsimp only [addC, setC, rmC, selC, getC] at hH
      obtain ⟨A219, c219, rfl, hH⟩ := hH.el_sl 2 rfl rfl
      dsimp only [addC, setC, rmC, selC, getC] at hH
      replace hH : Hp sb s F0 s198 [Ck.ol OI 3 A163 c163 x163, Ck.oh (Ow.sl OI 3) 24 A31 c31 u30 (Int.toNat x164) [.slice A219 u218.length c219], Ck.ol OI 3 A219 c219 u218] := hH
      refine HL_cons rfl ?_
      refine iaddr_of (K := (Kd.sl KI)) hA218 hu218 s198 rfl rfl Try.underlying105 tI24 ?_
      try dsimp only [putL, setL, evL, getL]
      refine HL_cons rfl ?_
      refine o_load' rfl Try.underlying24 rfl (hH.hasoh 1 rfl hA218 0 _ rfl) ?_
      try dsimp only [putL, setL, evL, getL]
      refine HL_cons rfl ?_
      refine o_assign ?_
      try dsimp only [putL, setL, evL, getL]
      refine HL_cons rfl ?_
      refine o_assign ?_
      try dsimp only [putL, setL, evL, getL]
      refine HL_nil ?_
      refine hK217 _ _ ?_
      refine joinH H fun G220 hG220 H => ?_
      refine HT_joinK (fun l' s' => ∃ (x224 : List (Int)) (A224 : Option Addr) (c224 : Nat), G220 x224 = some r ∧ l' = [.slice A0p p0.length c0p, .slice A1p p1.length c1p, .slice A2p p2.length c2p, undef, undef, undef, .slice none 0 0, .bool false, .slice A224 x224.length c224, .int .i64 x164, .slice A219 u218.length c219, j11, j12, j13, j14, j15, j16, j17, j18, .bool x19, .slice A27 ([] : List (Int)).length 0, .slice A0p p0.length c0p, .slice A1p p1.length c1p, .slice A31 u30.length c31, .int .i64 (u30.length : Int), .int .i64 x164, .bool (decide (x164 < (u30.length : Int))), .int .i64 x164, .pointer (some ⟨b218, o218 + Int.toNat x164 * Kd.sz (Kd.sl KI), none⟩), .slice A219 u218.length c219, getL l' 30, getL l' 31, getL l' 32, getL l' 33, getL l' 34, j35, j36, j37, j38, undef, undef, undef, undef] ∧ Hp sb s F0 s' [Ck.ol OI 3 A224 c224 x224, Ck.ol OI 3 A219 c219 u218, Ck.oh (Ow.sl OI 3) 24 A31 c31 u30 (Int.toNat x164) [.slice A219 u218.length c219]]) ?_ ?_
      ·intro K220 hK220
       refine HT_seq_k ?_
       intro K225 hK225
       refine HT_region ?_
       refine HL_cons rfl ?_
       refine o_move ?_
       try dsimp only [putL, setL, evL, getL]
       refine HL_cons rfl ?_
       refine o_bin rfl rfl rfl ?_
       try dsimp only [putL, setL, evL, getL]
       refine HL_nil ?_
       refine hK225 _ _ ?_
       rcases Bool.eq_false_or_eq_true (decide (x164 > 0)) with hb226 | hb226
       ·replace H := iteT hb226 H
        refine HT_true (congrArg Value.bool hb226) ?_
        refine HT_region ?_
        refine HL_cons rfl ?_
        refine o_move ?_
        try dsimp only [putL, setL, evL, getL]
        refine HL_cons rfl ?_
        refine o_move ?_
        try dsimp only [putL, setL, evL, getL]
        replace H := headE H
        obtain ⟨x227, hx227, H⟩ := H
        refine HL_cons rfl ?_
        refine o_appF (K := KI) (n := 17592186044416) (A := A163) (c := c163) (xs := x163) (ys := p2) (B := A2p) (c2 := c2p) hH 0 rfl rfl rfl rfl Try.underlying24 tI3 rfl (by decide) (by decide) (by decide) (Src.flat (HRp2.mono hH.bs.mono)) hx227 ?_
        intro A227 c227 s227 hH'
        replace hH : Hp sb s F0 s227 [Ck.ol OI 3 A227 c227 x227, Ck.oh (Ow.sl OI 3) 24 A31 c31 u30 (Int.toNat x164) [.slice A219 u218.length c219], Ck.ol OI 3 A219 c219 u218] := hH'
        clear hH'
        try dsimp only [putL, setL, evL, getL]
        refine HL_cons rfl ?_
        refine o_assign ?_
        try dsimp only [putL, setL, evL, getL]
        refine HL_nil ?_
        exact hK220 _ _ ⟨x227, A227, c227, H, rfl, hH.sel [0, 2, 1] (by decide)⟩
       ·replace H := iteF hb226 H
        refine HT_false (congrArg Value.bool hb226) ?_
        refine HT_skip ?_
        exact hK220 _ _ ⟨x163, A163, c163, H, rfl, hH.sel [0, 2, 1] (by decide)⟩
      ·rintro l' s228 ⟨x224, A224, c224, H, hl, hH⟩
       generalize getL l' 30 = j30, getL l' 31 = j31, getL l' 32 = j32, getL l' 33 = j33, getL l' 34 = j34 at hl
       subst hl
       replace H := hG220 _ H
       try dsimp only at H
       refine HT_region ?_
       refine HL_cons rfl ?_
       refine o_move ?_
       try dsimp only [putL, setL, evL, getL]
       refine HL_cons rfl ?_
       refine o_move ?_
       try dsimp only [putL, setL, evL, getL]
       replace H := headE H
       obtain ⟨x229, hx229, H⟩ := H
       refine HL_cons rfl ?_
       refine o_appF (K := KI) (n := 17592186044416) (A := A224) (c := c224) (xs := x224) (ys := u218) (B := A219) (c2 := c219) hH 0 rfl rfl rfl rfl Try.underlying24 tI3 rfl (by decide) (by decide) (by decide) (Src.flat (hH.rd 1 rfl)) hx229 ?_
       intro A229 c229 s229 hH'
       replace hH : Hp sb s F0 s229 [Ck.ol OI 3 A229 c229 x229, Ck.ol OI 3 A219 c219 u218, Ck.oh (Ow.sl OI 3) 24 A31 c31 u30 (Int.toNat x164) [.slice A219 u218.length c219]] := hH'
       clear hH'
       try dsimp only [putL, setL, evL, getL]
       refine HL_cons rfl ?_
       refine o_assign ?_
       try dsimp only [putL, setL, evL, getL]
       refine HL_nil ?_
       refine hK216 _ _ ?_
       refine HT_region ?_
       refine HL_cons rfl ?_
       refine o_bin rfl rfl rfl ?_
       try dsimp only [putL, setL, evL, getL]
       refine HL_cons rfl ?_
       refine o_move ?_
       try dsimp only [putL, setL, evL, getL]
       refine HL_nil ?_
       replace hH := hH.conv [1] (by decide) (d := Ck.el (Ow.sl OI 3) [.slice A219 u218.length c219] u218) Ent.sl
       dsimp only [addC, setC, rmC, selC, getC] at hH
       replace hH := hH.close (i := x164) 2 3 (by decide) rfl rfl rfl (st?_same hu218)
       dsimp only [addC, setC, rmC, selC, getC] at hH
       replace hH : Hp sb s F0 s229 [Ck.ol OI 3 A229 c229 x229, Ck.emp, Ck.ol (Ow.sl OI 3) 24 A31 c31 u30, Ck.emp] := hH
       exact hK198 _ _ ⟨kf, Nat.lt_succ_self kf, x229, A229, c229, IntKind.i64.wrap (x164 + 1), H, rfl, hH.sel [0, 2] (by decide)⟩
     ·replace H := iteF hb201 H
      refine HT_false (congrArg Value.bool hb201) ?_
      refine HT_exit ?_
      exact hK32 _ _ ⟨x163, A163, c163, H, rfl, hH.sel [0] (by decide)⟩
   ·rintro l' s230 ⟨x131, A131, c131, H, hl, hH⟩
    generalize getL l' 9 = j9, getL l' 10 = j10, getL l' 25 = j25, getL l' 26 = j26, getL l' 27 = j27, getL l' 28 = j28, getL l' 29 = j29, getL l' 30 = j30, getL l' 31 = j31, getL l' 32 = j32, getL l' 33 = j33, getL l' 34 = j34, getL l' 35 = j35, getL l' 36 = j36, getL l' 37 = j37, getL l' 38 = j38 at hl
    subst hl
    replace H := hG32 _ H
    try dsimp only at H
    refine hK28 _ _ ?_
    refine HT_seq_k ?_
    intro K231 hK231
    refine HT_seq_k ?_
    intro K232 hK232
    refine HT_region ?_
    refine HL_cons rfl ?_
    refine o_move ?_
    try dsimp only [putL, setL, evL, getL]
    refine HL_cons rfl ?_
    refine o_len rfl Try.underlying24 ?_
    try dsimp only [putL, setL, evL, getL]
    refine HL_cons rfl ?_
    refine o_bin rfl rfl rfl ?_
    try dsimp only [putL, setL, evL, getL]
    refine HL_nil ?_
    refine hK232 _ _ ?_
    rcases Bool.eq_false_or_eq_true (decide ((x131.length : Int) > 120)) with hb233 | hb233
    ·replace H := iteT hb233 H
     refine HT_true (congrArg Value.bool hb233) ?_
     refine HT_seq_k ?_
     intro K234 hK234
     refine HT_region ?_
     refine HL_cons rfl ?_
     refine o_assign ?_
     try dsimp only [putL, setL, evL, getL]
     refine HL_cons rfl ?_
     refine o_assign ?_
     try dsimp only [putL, setL, evL, getL]
     refine HL_nil ?_
     refine hK234 _ _ ?_
     refine HT_ret ?_
     exact hQr _ _ [.slice none 0 0, .bool false] ⟨rfl, rfl, trivial⟩ (retH (fun r => impl_ReplaceIn.post sb s F0 r _ _) (show some _ = some r from H) ⟨none, 0, rfl, (hH.nil (K := KI) OI 3).sel [1] (by decide)⟩)
    ·replace H := iteF hb233 H
     refine HT_false (congrArg Value.bool hb233) ?_
     refine HT_skip ?_
     refine hK231 _ _ ?_
     refine HT_seq_k ?_
     intro K235 hK235
     refine HT_region ?_
     refine HL_cons rfl ?_
     refine o_move ?_
     try dsimp only [putL, setL, evL, getL]
     refine HL_cons rfl ?_
     refine o_assign ?_
     try dsimp only [putL, setL, evL, getL]
     refine HL_cons rfl ?_
     refine o_assign ?_
     try dsimp only [putL, setL, evL, getL]
     refine HL_nil ?_
     refine hK235 _ _ ?_
     refine HT_ret ?_
     exact hQr _ _ [.slice A131 x131.length c131, .bool true] ⟨rfl, rfl, trivial⟩ (retH (fun r => impl_ReplaceIn.post sb s F0 r _ _) (show some _ = some r from H) ⟨A131, c131, rfl, hH⟩)
def laws_eqIntS.l1 (p0 : List (Int)) (p1 : List (Int)) : Nat → Int → Option (Lo Unit Bool)
 | 0, _ => none
 | kf + 1, x48 => if (decide (x48 < (p0.length : Int))) = true then ((rd? p0 x48).bind fun u65 => (rd? p1 x48).bind fun u66 => if (u65 != u66) = true then ((some false).bind fun z => some (Lo.ret z)) else (laws_eqIntS.l1 p0 p1 kf (IntKind.i64.wrap (x48 + 1)))) else (some (Lo.go ()))
def laws_eqIntS.f (p0 : List (Int)) (p1 : List (Int)) : Option Bool := if ((p0.length : Int) != (p1.length : Int)) = true then (some false) else ((laws_eqIntS.l1 p0 p1 ((((p0.length : Int)) - (0)).toNat + 2) 0).bind fun (o : Lo Unit Bool) => match o with | .go () => (some true) | .ret z => some z)
def laws_eqIntS.post (sb s : St) (F0 : Fp) (r : Bool) : Value → St → Prop := fun v s' => v = .bool r ∧ Hp sb s F0 s' []
set_option maxRecDepth 100000 in
set_option maxHeartbeats 4000000 in
theorem laws_eqIntS.ok (sb s : St) (F0 : Fp) (A0p : Option Addr) (c0p : Nat) (p0 : List (Int)) (A1p : Option Addr) (c1p : Nat) (p1 : List (Int)) (HRp0 : Rd KI sb A0p c0p p0) (HRp1 : Rd KI sb A1p c1p p1) (hH : Hp sb s F0 s []) (r : Bool) (H : laws_eqIntS.f p0 p1 = some r) : GCall Try.prog 63 #[.slice A0p p0.length c0p, .slice A1p p1.length c1p] s (laws_eqIntS.post sb s F0 r) := by
 refine GCall_ofk [.tmp 4] [.slice A0p p0.length c0p, .slice A1p p1.length c1p, undef, undef, undef, undef, undef, undef, undef, undef, undef, undef, undef, undef, undef, undef, undef, undef, undef, undef, undef, undef, undef, undef, undef, undef] Try.func63 rfl rfl rfl ?_
 intro w Q hQr hQn hQp
 replace H := topE H
 unfold laws_eqIntS.f at H
 refine HT_seq_k ?_
 intro K1 hK1
 refine HT_region ?_
 refine HL_cons rfl ?_
 refine o_assign ?_
 try dsimp only [putL, setL, evL, getL]
 refine HL_nil ?_
 refine hK1 _ _ ?_
 refine HT_seq_k ?_
 intro K2 hK2
 refine HT_seq_k ?_
 intro K3 hK3
 refine HT_region ?_
 refine HL_cons rfl ?_
 refine o_move ?_
 try dsimp only [putL, setL, evL, getL]
 refine HL_cons rfl ?_
 refine o_len rfl Try.underlying24 ?_
 try dsimp only [putL, setL, evL, getL]
 refine HL_cons rfl ?_
 refine o_move ?_
 try dsimp only [putL, setL, evL, getL]
 refine HL_cons rfl ?_
 refine o_len rfl Try.underlying24 ?_
 try dsimp only [putL, setL, evL, getL]
 refine HL_cons rfl ?_
 refine o_bin rfl rfl rfl ?_
 try dsimp only [putL, setL, evL, getL]
 refine HL_nil ?_
 refine hK3 _ _ ?_
 rcases Bool.eq_false_or_eq_true ((p0.length : Int) != (p1.length : Int)) with hb4 | hb4
 ·replace H := iteT hb4 H
  refine HT_true (congrArg Value.bool hb4) ?_
  refine HT_seq_k ?_
  intro K5 hK5
  refine HT_region ?_
  refine HL_cons rfl ?_
  refine o_assign ?_
  try dsimp only [putL, setL, evL, getL]
  refine HL_nil ?_
  refine hK5 _ _ ?_
  refine HT_ret ?_
  exact hQr _ _ [.bool false] ⟨rfl, trivial⟩ (retH (fun r => laws_eqIntS.post sb s F0 r _ _) (show some _ = some r from H) ⟨rfl, hH⟩)
 ·replace H := iteF hb4 H
  refine HT_false (congrArg Value.bool hb4) ?_
  refine HT_skip ?_
  refine hK2 _ _ ?_
  refine HT_seq_k ?_
  intro K6 hK6
  refine HT_seq_k ?_
  intro K7 hK7
  refine HT_region ?_
  refine HL_cons rfl ?_
  refine o_assign ?_
  try dsimp only [putL, setL, evL, getL]
  refine HL_nil ?_
  refine hK7 _ _ ?_
  refine joinH H fun G8 hG8 H => ?_
  refine HT_toK (fun l' s' => G8 (.go ()) = some r ∧ l' = [.slice A0p p0.length c0p, .slice A1p p1.length c1p, undef, undef, getL l' 4, getL l' 5, .slice A0p p0.length c0p, .int .i64 (p0.length : Int), .slice A1p p1.length c1p, .int .i64 (p1.length : Int), .bool ((p0.length : Int) != (p1.length : Int)), getL l' 11, getL l' 12, getL l' 13, getL l' 14, getL l' 15, getL l' 16, getL l' 17, getL l' 18, getL l' 19, getL l' 20, getL l' 21, getL l' 22, getL l' 23, getL l' 24, getL l' 25] ∧ Hp sb s F0 s' []) ?_ ?_
  ·intro K8 hK8
   refine HT_block ?_
   refine HT_loopK (fun kf l' s' => ∃ (x48 : Int), (laws_eqIntS.l1 p0 p1 kf x48).bind G8 = some r ∧ l' = [.slice A0p p0.length c0p, .slice A1p p1.length c1p, undef, undef, getL l' 4, .int .i64 x48, .slice A0p p0.length c0p, .int .i64 (p0.length : Int), .slice A1p p1.length c1p, .int .i64 (p1.length : Int), .bool ((p0.length : Int) != (p1.length : Int)), getL l' 11, getL l' 12, getL l' 13, getL l' 14, getL l' 15, getL l' 16, getL l' 17, getL l' 18, getL l' 19, getL l' 20, getL l' 21, getL l' 22, getL l' 23, getL l' 24, getL l' 25] ∧ Hp sb s F0 s' []) ((((p0.length : Int)) - (0)).toNat + 2) ⟨0, H, rfl, hH⟩ ?_
   rintro kf l' s59 ⟨x48, H, hl, hH⟩ K59 hK59
   generalize getL l' 4 = j4, getL l' 11 = j11, getL l' 12 = j12, getL l' 13 = j13, getL l' 14 = j14, getL l' 15 = j15, getL l' 16 = j16, getL l' 17 = j17, getL l' 18 = j18, getL l' 19 = j19, getL l' 20 = j20, getL l' 21 = j21, getL l' 22 = j22, getL l' 23 = j23, getL l' 24 = j24, getL l' 25 = j25 at hl
   subst hl
   cases kf with
   | zero => simp [laws_eqIntS.l1] at H
   | succ kf =>
    rw [laws_eqIntS.l1] at H
    refine HT_seq_k ?_
    intro K60 hK60
    refine HT_seq_k ?_
    intro K61 hK61
    refine HT_region ?_
    refine HL_cons rfl ?_
    refine o_move ?_
    try dsimp only [putL, setL, evL, getL]
    refine HL_cons rfl ?_
    refine o_move ?_
    try dsimp only [putL, setL, evL, getL]
    refine HL_cons rfl ?_
    refine o_len rfl Try.underlying24 ?_
    try dsimp only [putL, setL, evL, getL]
    refine HL_cons rfl ?_
    refine o_bin rfl rfl rfl ?_
    try dsimp only [putL, setL, evL, getL]
    refine HL_nil ?_
    refine hK61 _ _ ?_
    rcases Bool.eq_false_or_eq_true (decide (x48 < (p0.length : Int))) with hb62 | hb62
    ·replace H := iteT hb62 H
     refine HT_true (congrArg Value.bool hb62) ?_
     refine HT_skip ?_
     refine hK60 _ _ ?_
     refine HT_seq_k ?_
     intro K63 hK63
     refine HT_block ?_
     refine HT_seq_k ?_
     intro K64 hK64
     refine HX_draw hMix ?_
     refine HX_lim (R := fun _ => True) (k := 0) (fun s' => Gro s59 s') 10 ?_
     have hR := Gro.refl s59
     have hH0 := hH
     refine HK_readP 0 (v := .slice A0p p0.length c0p) rfl (by kernel_rfl) (fun c l s h => hQp c l s h) rfl (fun s' K hK => ?_) rfl rfl (fun _ => hR) ?_
     ·refine o_move ?_
      exact hK
     try dsimp only [putL, setL, evL, getL]
     refine HK_readP 1 (v := .int .i64 x48) rfl (by kernel_rfl) (fun c l s h => hQp c l s h) rfl (fun s' K hK => ?_) rfl rfl (fun _ => hR) ?_
     ·refine o_move ?_
      exact hK
     try dsimp only [putL, setL, evL, getL]
     replace H := headE H
     obtain ⟨u65, hu65, H⟩ := H
     obtain ⟨b65, o65, cs65, hr65, hh65, hel65⟩ := Rd.elb HRp0 hu65
     obtain rfl := hr65
     refine HK_readP 2 (v := .pointer (some ⟨b65, o65, none⟩)) rfl (by kernel_rfl) (fun c l s h => hQp c l s h) rfl (fun s' K hK => ?_) rfl rfl (fun _ => hR) ?_
     ·refine hel65 s' rfl rfl Try.underlying24 tI3 ?_
      exact hK
     try dsimp only [putL, setL, evL, getL]
     refine HK_read 3 (v := .int .i64 u65) rfl (by kernel_rfl) (fun c l s h => hQp c l s h) rfl (fun s' hR' K hK => ?_) rfl rfl hR ?_
     ·refine o_load' rfl Try.underlying3 rfl ((hh65 (hH0.bs.mono.trans hR'.mono)) 0 _ rfl) ?_
      exact hK
     try dsimp only [putL, setL, evL, getL]
     refine HK_readP 4 (v := .slice A1p p1.length c1p) rfl (by kernel_rfl) (fun c l s h => hQp c l s h) rfl (fun s' K hK => ?_) rfl rfl (fun _ => hR) ?_
     ·refine o_move ?_
      exact hK
     try dsimp only [putL, setL, evL, getL]
     refine HK_readP 5 (v := .int .i64 x48) rfl (by kernel_rfl) (fun c l s h => hQp c l s h) rfl (fun s' K hK => ?_) rfl rfl (fun _ => hR) ?_
     ·refine o_move ?_
      exact hK
     try dsimp only [putL, setL, evL, getL]
     replace H := headE H
     obtain ⟨u66, hu66, H⟩ := H
     obtain ⟨b66, o66, cs66, hr66, hh66, hel66⟩ := Rd.elb HRp1 hu66
     obtain rfl := hr66
     refine HK_readP 6 (v := .pointer (some ⟨b66, o66, none⟩)) rfl (by kernel_rfl) (fun c l s h => hQp c l s h) rfl (fun s' K hK => ?_) rfl rfl (fun _ => hR) ?_
     ·refine hel66 s' rfl rfl Try.underlying24 tI3 ?_
      exact hK
     try dsimp only [putL, setL, evL, getL]
     refine HK_read 7 (v := .int .i64 u66) rfl (by kernel_rfl) (fun c l s h => hQp c l s h) rfl (fun s' hR' K hK => ?_) rfl rfl hR ?_
     ·refine o_load' rfl Try.underlying3 rfl ((hh66 (hH0.bs.mono.trans hR'.mono)) 0 _ rfl) ?_
      exact hK
     try dsimp only [putL, setL, evL, getL]
     refine HK_readP 8 (v := .bool (u65 != u66)) rfl (by kernel_rfl) (fun c l s h => hQp c l s h) rfl (fun s' K hK => ?_) rfl rfl (fun _ => hR) ?_
     ·refine o_bin rfl rfl rfl ?_
      exact hK
     try dsimp only [putL, setL, evL, getL]
     refine HK_done (fun _ => hR) (by kernel_rfl) ?_
     refine hK64 _ _ ?_
     rcases Bool.eq_false_or_eq_true (u65 != u66) with hb67 | hb67
     ·replace H := iteT hb67 H
      refine HT_true (congrArg Value.bool hb67) ?_
      refine HT_seq_k ?_
      intro K68 hK68
      refine HT_region ?_
      refine HL_cons rfl ?_
      refine o_assign ?_
      try dsimp only [putL, setL, evL, getL]
      refine HL_nil ?_
      refine hK68 _ _ ?_
      refine HT_ret ?_
      replace H := escH (fun z hz => hG8 _ hz) H
      exact hQr _ _ [.bool false] ⟨rfl, trivial⟩ (retH (fun r => laws_eqIntS.post sb s F0 r _ _) (show some _ = some r from H) ⟨rfl, hH⟩)
     ·replace H := iteF hb67 H
      refine HT_false (congrArg Value.bool hb67) ?_
      refine HT_skip ?_
      refine hK63 _ _ ?_
      refine HT_region ?_
      refine HL_cons rfl ?_
      refine o_move ?_
      try dsimp only [putL, setL, evL, getL]
      refine HL_cons rfl ?_
      refine o_bin rfl rfl rfl ?_
      try dsimp only [putL, setL, evL, getL]
      refine HL_cons rfl ?_
      refine o_assign ?_
      try dsimp only [putL, setL, evL, getL]
      refine HL_nil ?_
      exact hK59 _ _ ⟨kf, Nat.lt_succ_self kf, IntKind.i64.wrap (x48 + 1), H, rfl, hH⟩
    ·replace H := iteF hb62 H
     refine HT_false (congrArg Value.bool hb62) ?_
     refine HT_exit ?_
     exact hK8 _ _ ⟨H, rfl, hH⟩
  ·rintro l' s69 ⟨H, hl, hH⟩
   generalize getL l' 4 = j4, getL l' 5 = j5, getL l' 11 = j11, getL l' 12 = j12, getL l' 13 = j13, getL l' 14 = j14, getL l' 15 = j15, getL l' 16 = j16, getL l' 17 = j17, getL l' 18 = j18, getL l' 19 = j19, getL l' 20 = j20, getL l' 21 = j21, getL l' 22 = j22, getL l' 23 = j23, getL l' 24 = j24, getL l' 25 = j25 at hl
   subst hl
   replace H := hG8 _ H
   try dsimp only at H
   refine hK6 _ _ ?_
   refine HT_seq_k ?_
   intro K70 hK70
   refine HT_region ?_
   refine HL_cons rfl ?_
   refine o_assign ?_
   try dsimp only [putL, setL, evL, getL]
   refine HL_nil ?_
   refine hK70 _ _ ?_
   refine HT_ret ?_
   exact hQr _ _ [.bool true] ⟨rfl, trivial⟩ (retH (fun r => laws_eqIntS.post sb s F0 r _ _) (show some _ = some r from H) ⟨rfl, hH⟩)
def laws_eqRe.f (p0_0 : Int) (p0_1 : List (Int)) (p1_0 : Int) (p1_1 : List (Int)) : Option Bool := if (p0_0 != p1_0) = true then (some false) else ((laws_eqIntS.f p0_1 p1_1).bind fun u10 => if (!u10) = true then (some false) else (some true))
def laws_eqRe.post (sb s : St) (F0 : Fp) (r : Bool) : Value → St → Prop := fun v s' => v = .bool r ∧ Hp sb s F0 s' []
set_option maxRecDepth 100000 in
set_option maxHeartbeats 4000000 in
theorem laws_eqRe.ok (sb s : St) (F0 : Fp) (p0_0 : Int) (A0_1p : Option Addr) (c0_1p : Nat) (p0_1 : List (Int)) (p1_0 : Int) (A1_1p : Option Addr) (c1_1p : Nat) (p1_1 : List (Int)) (HRp0_1 : Rd KI sb A0_1p c0_1p p0_1) (HRp1_1 : Rd KI sb A1_1p c1_1p p1_1) (hH : Hp sb s F0 s []) (r : Bool) (H : laws_eqRe.f p0_0 p0_1 p1_0 p1_1 = some r) : GCall Try.prog 138 #[.agg #[.int .i64 p0_0, .slice A0_1p p0_1.length c0_1p], .agg #[.int .i64 p1_0, .slice A1_1p p1_1.length c1_1p]] s (laws_eqRe.post sb s F0 r) := by
 refine GCall_ofk [.tmp 4] [.agg #[.int .i64 p0_0, .slice A0_1p p0_1.length c0_1p], .agg #[.int .i64 p1_0, .slice A1_1p p1_1.length c1_1p], undef, undef, undef, undef, undef, undef, undef, undef, undef, undef, undef, undef, undef, undef] Try.func138 rfl rfl rfl ?_
 intro w Q hQr hQn hQp
 replace H := topE H
 unfold laws_eqRe.f at H
 refine HT_seq_k ?_
 intro K1 hK1
 refine HT_region ?_
 refine HL_cons rfl ?_
 refine o_boxH hH rfl ?_
 intro b2 s2 hH' hG
 replace hH : Hp sb s F0 s2 [Ck.ov b2 [.int .i64 p0_0, .slice A0_1p p0_1.length c0_1p] 139] := hH'
 clear hH' hG
 try dsimp only [putL, setL, evL, getL]
 refine HL_cons rfl ?_
 refine o_boxH hH rfl ?_
 intro b3 s3 hH' hG
 replace hH : Hp sb s F0 s3 [Ck.ov b2 [.int .i64 p0_0, .slice A0_1p p0_1.length c0_1p] 139, Ck.ov b3 [.int .i64 p1_0, .slice A1_1p p1_1.length c1_1p] 139] := hH'
 clear hH' hG
 try dsimp only [putL, setL, evL, getL]
 refine HL_cons rfl ?_
 refine o_assign ?_
 try dsimp only [putL, setL, evL, getL]
 refine HL_nil ?_
 refine hK1 _ _ ?_
 refine HT_seq_k ?_
 intro K4 hK4
 refine HT_seq_k ?_
 intro K5 hK5
 refine HT_region ?_
 refine HL_cons rfl ?_
 refine o_faddr' (ft := 3) (off := 0) rfl Try.underlying139 rfl tI3 (by decide) ?_
 try dsimp only [putL, setL, evL, getL]
 refine HL_cons rfl ?_
 refine o_load' rfl Try.underlying3 rfl (hH.hasv 0 rfl rfl) ?_
 try dsimp only [putL, setL, evL, getL]
 refine HL_cons rfl ?_
 refine o_faddr' (ft := 3) (off := 0) rfl Try.underlying139 rfl tI3 (by decide) ?_
 try dsimp only [putL, setL, evL, getL]
 refine HL_cons rfl ?_
 refine o_load' rfl Try.underlying3 rfl (hH.hasv 1 rfl rfl) ?_
 try dsimp only [putL, setL, evL, getL]
 refine HL_cons rfl ?_
 refine o_bin rfl rfl rfl ?_
 try dsimp only [putL, setL, evL, getL]
 refine HL_nil ?_
 refine hK5 _ _ ?_
 rcases Bool.eq_false_or_eq_true (p0_0 != p1_0) with hb6 | hb6
 ·replace H := iteT hb6 H
  refine HT_true (congrArg Value.bool hb6) ?_
  refine HT_seq_k ?_
  intro K7 hK7
  refine HT_region ?_
  refine HL_cons rfl ?_
  refine o_assign ?_
  try dsimp only [putL, setL, evL, getL]
  refine HL_nil ?_
  refine hK7 _ _ ?_
  refine HT_ret ?_
  exact hQr _ _ [.bool false] ⟨rfl, trivial⟩ (retH (fun r => laws_eqRe.post sb s F0 r _ _) (show some _ = some r from H) ⟨rfl, hH.sel [] (by decide)⟩)
 ·replace H := iteF hb6 H
  refine HT_false (congrArg Value.bool hb6) ?_
  refine HT_skip ?_
  refine hK4 _ _ ?_
  refine HT_seq_k ?_
  intro K8 hK8
  refine HT_seq_k ?_
  intro K9 hK9
  refine HT_region ?_
  refine HL_cons rfl ?_
  refine o_faddr' (ft := 24) (off := 1) rfl Try.underlying139 rfl tI24 (by decide) ?_
  try dsimp only [putL, setL, evL, getL]
  refine HL_cons rfl ?_
  refine o_load' rfl Try.underlying24 rfl (hH.hasv 0 rfl rfl) ?_
  try dsimp only [putL, setL, evL, getL]
  refine HL_cons rfl ?_
  refine o_faddr' (ft := 24) (off := 1) rfl Try.underlying139 rfl tI24 (by decide) ?_
  try dsimp only [putL, setL, evL, getL]
  refine HL_cons rfl ?_
  refine o_load' rfl Try.underlying24 rfl (hH.hasv 1 rfl rfl) ?_
  try dsimp only [putL, setL, evL, getL]
  replace H := headE H
  obtain ⟨u10, hu10, H⟩ := H
  refine HL_cons rfl ?_
  refine o_call (args := #[.slice A0_1p p0_1.length c0_1p, .slice A1_1p p1_1.length c1_1p]) Try.func63 rfl rfl rfl (laws_eqIntS.ok sb s3 no A0_1p c0_1p p0_1 A1_1p c1_1p p1_1 HRp0_1 HRp1_1 (Hp.own hH.bs) _ hu10) ?_
  rintro _ s10 ⟨rfl, hD⟩
  replace hH := hH.back0 hD (Up.refl _ _ _)
  clear hD
  dsimp only [addC, setC, rmC, selC, getC] at hH
  try dsimp only [putL, setL, evL, getL]
  refine HL_cons rfl ?_
  refine o_not rfl ?_
  try dsimp only [putL, setL, evL, getL]
  refine HL_nil ?_
  refine hK9 _ _ ?_
  rcases Bool.eq_false_or_eq_true (!u10) with hb11 | hb11
  ·replace H := iteT hb11 H
   refine HT_true (congrArg Value.bool hb11) ?_
   refine HT_seq_k ?_
   intro K12 hK12
   refine HT_region ?_
   refine HL_cons rfl ?_
   refine o_assign ?_
   try dsimp only [putL, setL, evL, getL]
   refine HL_nil ?_
   refine hK12 _ _ ?_
   refine HT_ret ?_
   exact hQr _ _ [.bool false] ⟨rfl, trivial⟩ (retH (fun r => laws_eqRe.post sb s F0 r _ _) (show some _ = some r from H) ⟨rfl, hH.sel [] (by decide)⟩)
  ·replace H := iteF hb11 H
   refine HT_false (congrArg Value.bool hb11) ?_
   refine HT_skip ?_
   refine hK8 _ _ ?_
   refine HT_seq_k ?_
   intro K13 hK13
   refine HT_region ?_
   refine HL_cons rfl ?_
   refine o_assign ?_
   try dsimp only [putL, setL, evL, getL]
   refine HL_nil ?_
   refine hK13 _ _ ?_
   refine HT_ret ?_
   exact hQr _ _ [.bool true] ⟨rfl, trivial⟩ (retH (fun r => laws_eqRe.post sb s F0 r _ _) (show some _ = some r from H) ⟨rfl, hH.sel [] (by decide)⟩)
def laws_eqReS.l1 (p0 : List ((Int) × (List (Int)))) (p1 : List ((Int) × (List (Int)))) : Nat → Int → Option (Lo Unit Bool)
 | 0, _ => none
 | kf + 1, x60 => if (decide (x60 < (p0.length : Int))) = true then ((rd? p0 x60).bind fun u80 => (rd? p1 x60).bind fun u82 => (laws_eqRe.f u80.1 u80.2 u82.1 u82.2).bind fun u84 => if (!u84) = true then ((some false).bind fun z => some (Lo.ret z)) else (laws_eqReS.l1 p0 p1 kf (IntKind.i64.wrap (x60 + 1)))) else (some (Lo.go ()))
def laws_eqReS.f (p0 : List ((Int) × (List (Int)))) (p1 : List ((Int) × (List (Int)))) : Option Bool := if ((p0.length : Int) != (p1.length : Int)) = true then (some false) else ((laws_eqReS.l1 p0 p1 ((((p0.length : Int)) - (0)).toNat + 2) 0).bind fun (o : Lo Unit Bool) => match o with | .go () => (some true) | .ret z => some z)
def laws_eqReS.post (sb s : St) (F0 : Fp) (r : Bool) : Value → St → Prop := fun v s' => v = .bool r ∧ Hp sb s F0 s' []
set_option maxRecDepth 100000 in
set_option maxHeartbeats 4000000 in
theorem laws_eqReS.ok (sb s : St) (F0 : Fp) (A0p : Option Addr) (c0p : Nat) (p0 : List ((Int) × (List (Int)))) (A1p : Option Addr) (c1p : Nat) (p1 : List ((Int) × (List (Int)))) (HRp0 : Rd KS139 sb A0p c0p p0) (HRp1 : Rd KS139 sb A1p c1p p1) (hH : Hp sb s F0 s []) (r : Bool) (H : laws_eqReS.f p0 p1 = some r) : GCall Try.prog 44 #[.slice A0p p0.length c0p, .slice A1p p1.length c1p] s (laws_eqReS.post sb s F0 r) := by
 refine GCall_ofk [.tmp 4] [.slice A0p p0.length c0p, .slice A1p p1.length c1p, undef, undef, undef, undef, undef, undef, undef, undef, undef, undef, undef, undef, undef, undef, undef, undef, undef, undef, undef, undef, undef, undef, undef, undef, undef] Try.func44 rfl rfl rfl ?_
 intro w Q hQr hQn hQp
 replace H := topE H
 unfold laws_eqReS.f at H
 refine HT_seq_k ?_
 intro K1 hK1
 refine HT_region ?_
 refine HL_cons rfl ?_
 refine o_assign ?_
 try dsimp only [putL, setL, evL, getL]
 refine HL_nil ?_
 refine hK1 _ _ ?_
 refine HT_seq_k ?_
 intro K2 hK2
 refine HT_seq_k ?_
 intro K3 hK3
 refine HT_region ?_
 refine HL_cons rfl ?_
 refine o_move ?_
 try dsimp only [putL, setL, evL, getL]
 refine HL_cons rfl ?_
 refine o_len rfl Try.underlying57 ?_
 try dsimp only [putL, setL, evL, getL]
 refine HL_cons rfl ?_
 refine o_move ?_
 try dsimp only [putL, setL, evL, getL]
 refine HL_cons rfl ?_
 refine o_len rfl Try.underlying57 ?_
 try dsimp only [putL, setL, evL, getL]
 refine HL_cons rfl ?_
 refine o_bin rfl rfl rfl ?_
 try dsimp only [putL, setL, evL, getL]
 refine HL_nil ?_
 refine hK3 _ _ ?_
 rcases Bool.eq_false_or_eq_true ((p0.length : Int) != (p1.length : Int)) with hb4 | hb4
 ·replace H := iteT hb4 H
  refine HT_true (congrArg Value.bool hb4) ?_
  refine HT_seq_k ?_
  intro K5 hK5
  refine HT_region ?_
  refine HL_cons rfl ?_
  refine o_assign ?_
  try dsimp only [putL, setL, evL, getL]
  refine HL_nil ?_
  refine hK5 _ _ ?_
  refine HT_ret ?_
  exact hQr _ _ [.bool false] ⟨rfl, trivial⟩ (retH (fun r => laws_eqReS.post sb s F0 r _ _) (show some _ = some r from H) ⟨rfl, hH⟩)
 ·replace H := iteF hb4 H
  refine HT_false (congrArg Value.bool hb4) ?_
  refine HT_skip ?_
  refine hK2 _ _ ?_
  refine HT_seq_k ?_
  intro K6 hK6
  refine HT_seq_k ?_
  intro K7 hK7
  refine HT_region ?_
  refine HL_cons rfl ?_
  refine o_assign ?_
  try dsimp only [putL, setL, evL, getL]
  refine HL_nil ?_
  refine hK7 _ _ ?_
  refine joinH H fun G8 hG8 H => ?_
  refine HT_toK (fun l' s' => G8 (.go ()) = some r ∧ l' = [.slice A0p p0.length c0p, .slice A1p p1.length c1p, undef, undef, getL l' 4, getL l' 5, .slice A0p p0.length c0p, .int .i64 (p0.length : Int), .slice A1p p1.length c1p, .int .i64 (p1.length : Int), .bool ((p0.length : Int) != (p1.length : Int)), getL l' 11, getL l' 12, getL l' 13, getL l' 14, getL l' 15, getL l' 16, getL l' 17, getL l' 18, getL l' 19, getL l' 20, getL l' 21, getL l' 22, getL l' 23, getL l' 24, getL l' 25, getL l' 26] ∧ Hp sb s F0 s' []) ?_ ?_
  ·intro K8 hK8
   refine HT_block ?_
   refine HT_loopK (fun kf l' s' => ∃ (x60 : Int), (laws_eqReS.l1 p0 p1 kf x60).bind G8 = some r ∧ l' = [.slice A0p p0.length c0p, .slice A1p p1.length c1p, undef, undef, getL l' 4, .int .i64 x60, .slice A0p p0.length c0p, .int .i64 (p0.length : Int), .slice A1p p1.length c1p, .int .i64 (p1.length : Int), .bool ((p0.length : Int) != (p1.length : Int)), getL l' 11, getL l' 12, getL l' 13, getL l' 14, getL l' 15, getL l' 16, getL l' 17, getL l' 18, getL l' 19, getL l' 20, getL l' 21, getL l' 22, getL l' 23, getL l' 24, getL l' 25, getL l' 26] ∧ Hp sb s F0 s' []) ((((p0.length : Int)) - (0)).toNat + 2) ⟨0, H, rfl, hH⟩ ?_
   rintro kf l' s74 ⟨x60, H, hl, hH⟩ K74 hK74
   generalize getL l' 4 = j4, getL l' 11 = j11, getL l' 12 = j12, getL l' 13 = j13, getL l' 14 = j14, getL l' 15 = j15, getL l' 16 = j16, getL l' 17 = j17, getL l' 18 = j18, getL l' 19 = j19, getL l' 20 = j20, getL l' 21 = j21, getL l' 22 = j22, getL l' 23 = j23, getL l' 24 = j24, getL l' 25 = j25, getL l' 26 = j26 at hl
   subst hl
   cases kf with
   | zero => simp [laws_eqReS.l1] at H
   | succ kf =>
    rw [laws_eqReS.l1] at H
    refine HT_seq_k ?_
    intro K75 hK75
    refine HT_seq_k ?_
    intro K76 hK76
    refine HT_region ?_
    refine HL_cons rfl ?_
    refine o_move ?_
    try dsimp only [putL, setL, evL, getL]
    refine HL_cons rfl ?_
    refine o_move ?_
    try dsimp only [putL, setL, evL, getL]
    refine HL_cons rfl ?_
    refine o_len rfl Try.underlying57 ?_
    try dsimp only [putL, setL, evL, getL]
    refine HL_cons rfl ?_
    refine o_bin rfl rfl rfl ?_
    try dsimp only [putL, setL, evL, getL]
    refine HL_nil ?_
    refine hK76 _ _ ?_
    rcases Bool.eq_false_or_eq_true (decide (x60 < (p0.length : Int))) with hb77 | hb77
    ·replace H := iteT hb77 H
     refine HT_true (congrArg Value.bool hb77) ?_
     refine HT_skip ?_
     refine hK75 _ _ ?_
     refine HT_seq_k ?_
     intro K78 hK78
     refine HT_block ?_
     refine HT_seq_k ?_
     intro K79 hK79
     refine HX_draw hMix ?_
     refine HX_lim (R := fun _ => True) (k := 0) (fun s' => Gro s74 s') 11 ?_
     have hR := Gro.refl s74
     have hH0 := hH
     refine HK_readP 0 (v := .slice A0p p0.length c0p) rfl (by kernel_rfl) (fun c l s h => hQp c l s h) rfl (fun s' K hK => ?_) rfl rfl (fun _ => hR) ?_
     ·refine o_move ?_
      exact hK
     try dsimp only [putL, setL, evL, getL]
     refine HK_readP 1 (v := .int .i64 x60) rfl (by kernel_rfl) (fun c l s h => hQp c l s h) rfl (fun s' K hK => ?_) rfl rfl (fun _ => hR) ?_
     ·refine o_move ?_
      exact hK
     try dsimp only [putL, setL, evL, getL]
     replace H := headE H
     obtain ⟨u80, hu80, H⟩ := H
     obtain ⟨b80, o80, cs80, hr80, hh80, hel80⟩ := Rd.elb HRp0 hu80
     obtain ⟨_, _, rfl, rfl, ⟨A81, c81, rfl, D81⟩⟩ := hr80
     refine HK_readP 2 (v := .pointer (some ⟨b80, o80, none⟩)) rfl (by kernel_rfl) (fun c l s h => hQp c l s h) rfl (fun s' K hK => ?_) rfl rfl (fun _ => hR) ?_
     ·refine hel80 s' rfl rfl Try.underlying57 tI139 ?_
      exact hK
     try dsimp only [putL, setL, evL, getL]
     refine HK_read 3 (v := .agg #[.int .i64 u80.1, .slice A81 u80.2.length c81]) rfl (by kernel_rfl) (fun c l s h => hQp c l s h) rfl (fun s' hR' K hK => ?_) rfl rfl hR ?_
     ·refine o_loads' [.int .i64 u80.1, .slice A81 u80.2.length c81] rfl Try.underlying139 rfl tI139 rfl (fun j v hj => (hh80 (hH0.bs.mono.trans hR'.mono)) j v hj) ?_
      exact hK
     try dsimp only [putL, setL, evL, getL]
     refine HK_readP 4 (v := .slice A1p p1.length c1p) rfl (by kernel_rfl) (fun c l s h => hQp c l s h) rfl (fun s' K hK => ?_) rfl rfl (fun _ => hR) ?_
     ·refine o_move ?_
      exact hK
     try dsimp only [putL, setL, evL, getL]
     refine HK_readP 5 (v := .int .i64 x60) rfl (by kernel_rfl) (fun c l s h => hQp c l s h) rfl (fun s' K hK => ?_) rfl rfl (fun _ => hR) ?_
     ·refine o_move ?_
      exact hK
     try dsimp only [putL, setL, evL, getL]
     replace H := headE H
     obtain ⟨u82, hu82, H⟩ := H
     obtain ⟨b82, o82, cs82, hr82, hh82, hel82⟩ := Rd.elb HRp1 hu82
     obtain ⟨_, _, rfl, rfl, ⟨A83, c83, rfl, D83⟩⟩ := hr82
     refine HK_readP 6 (v := .pointer (some ⟨b82, o82, none⟩)) rfl (by kernel_rfl) (fun c l s h => hQp c l s h) rfl (fun s' K hK => ?_) rfl rfl (fun _ => hR) ?_
     ·refine hel82 s' rfl rfl Try.underlying57 tI139 ?_
      exact hK
     try dsimp only [putL, setL, evL, getL]
     refine HK_read 7 (v := .agg #[.int .i64 u82.1, .slice A83 u82.2.length c83]) rfl (by kernel_rfl) (fun c l s h => hQp c l s h) rfl (fun s' hR' K hK => ?_) rfl rfl hR ?_
     ·refine o_loads' [.int .i64 u82.1, .slice A83 u82.2.length c83] rfl Try.underlying139 rfl tI139 rfl (fun j v hj => (hh82 (hH0.bs.mono.trans hR'.mono)) j v hj) ?_
      exact hK
     try dsimp only [putL, setL, evL, getL]
     refine HK_more [8] (by kernel_rfl) rfl (fun _ => hR) ⟨⟨_, rfl, Or.inl ⟨rfl, ?_⟩⟩, trivial⟩
     replace H := headE H
     obtain ⟨u84, hu84, H⟩ := H
     skip
     refine o_call (args := #[.agg #[.int .i64 u80.1, .slice A81 u80.2.length c81], .agg #[.int .i64 u82.1, .slice A83 u82.2.length c83]]) Try.func138 rfl rfl rfl (laws_eqRe.ok sb s74 no u80.1 A81 c81 u80.2 u82.1 A83 c83 u82.2 D81 D83 (Hp.own hH.bs) _ hu84) ?_
     rintro _ s84 ⟨rfl, hD⟩
     replace hR := hR.trans hD.gro
     replace hH := hH.back0 hD (Up.refl _ _ _)
     clear hD
     dsimp only [addC, setC, rmC, selC, getC] at hH
     try dsimp only [putL, setL, evL, getL]
     refine HK_readP 9 (v := .bool (!u84)) rfl (by kernel_rfl) (fun c l s h => hQp c l s h) rfl (fun s' K hK => ?_) rfl rfl (fun _ => hR) ?_
     ·refine o_not rfl ?_
      exact hK
     try dsimp only [putL, setL, evL, getL]
     refine HK_done (fun _ => hR) (by kernel_rfl) ?_
     refine hK79 _ _ ?_
     rcases Bool.eq_false_or_eq_true (!u84) with hb85 | hb85
     ·replace H := iteT hb85 H
      refine HT_true (congrArg Value.bool hb85) ?_
      refine HT_seq_k ?_
      intro K86 hK86
      refine HT_region ?_
      refine HL_cons rfl ?_
      refine o_assign ?_
      try dsimp only [putL, setL, evL, getL]
      refine HL_nil ?_
      refine hK86 _ _ ?_
      refine HT_ret ?_
      replace H := escH (fun z hz => hG8 _ hz) H
      exact hQr _ _ [.bool false] ⟨rfl, trivial⟩ (retH (fun r => laws_eqReS.post sb s F0 r _ _) (show some _ = some r from H) ⟨rfl, hH⟩)
     ·replace H := iteF hb85 H
      refine HT_false (congrArg Value.bool hb85) ?_
      refine HT_skip ?_
      refine hK78 _ _ ?_
      refine HT_region ?_
      refine HL_cons rfl ?_
      refine o_move ?_
      try dsimp only [putL, setL, evL, getL]
      refine HL_cons rfl ?_
      refine o_bin rfl rfl rfl ?_
      try dsimp only [putL, setL, evL, getL]
      refine HL_cons rfl ?_
      refine o_assign ?_
      try dsimp only [putL, setL, evL, getL]
      refine HL_nil ?_
      exact hK74 _ _ ⟨kf, Nat.lt_succ_self kf, IntKind.i64.wrap (x60 + 1), H, rfl, hH⟩
    ·replace H := iteF hb77 H
     refine HT_false (congrArg Value.bool hb77) ?_
     refine HT_exit ?_
     exact hK8 _ _ ⟨H, rfl, hH⟩
  ·rintro l' s87 ⟨H, hl, hH⟩
   generalize getL l' 4 = j4, getL l' 5 = j5, getL l' 11 = j11, getL l' 12 = j12, getL l' 13 = j13, getL l' 14 = j14, getL l' 15 = j15, getL l' 16 = j16, getL l' 17 = j17, getL l' 18 = j18, getL l' 19 = j19, getL l' 20 = j20, getL l' 21 = j21, getL l' 22 = j22, getL l' 23 = j23, getL l' 24 = j24, getL l' 25 = j25, getL l' 26 = j26 at hl
   subst hl
   replace H := hG8 _ H
   try dsimp only at H
   refine hK6 _ _ ?_
   refine HT_seq_k ?_
   intro K88 hK88
   refine HT_region ?_
   refine HL_cons rfl ?_
   refine o_assign ?_
   try dsimp only [putL, setL, evL, getL]
   refine HL_nil ?_
   refine hK88 _ _ ?_
   refine HT_ret ?_
   exact hQr _ _ [.bool true] ⟨rfl, trivial⟩ (retH (fun r => laws_eqReS.post sb s F0 r _ _) (show some _ = some r from H) ⟨rfl, hH⟩)
def laws_markIntS.l1 (p0 : List (Int)) : Nat → (List (Int)) → Int → Int → Option (Int × (List (Int)))
 | 0, _, _, _ => none
 | kf + 1, x42, x43, x44 => if (decide (x44 < (p0.length : Int))) = true then ((rd? x42 x44).bind fun u61 => (st? x42 x44 x43).bind fun x62 => laws_markIntS.l1 p0 kf x62 (IntKind.i64.wrap (x43 + 1)) (IntKind.i64.wrap (x44 + 1))) else (some (x43, x42))
def laws_markIntS.f (p0 : List (Int)) (p1 : Int) : Option (Int × (List (Int))) := (laws_markIntS.l1 p0 ((((p0.length : Int)) - (0)).toNat + 2) p0 p1 0).bind fun (o : Int × (List (Int))) => match o with | (x33, x34) => (some (x33, x34))
def laws_markIntS.post (sb s : St) (F0 : Fp) (A0p : Option Addr) (c0p : Nat) (p0 : List (Int)) (r : Int × (List (Int))) : Value → St → Prop := fun v s' => v = .int .i64 r.1 ∧ Hp sb s F0 s' [Ck.ol OI 3 A0p c0p r.2] ∧ r.2.length = p0.length
set_option maxRecDepth 100000 in
set_option maxHeartbeats 4000000 in
theorem laws_markIntS.ok (sb s : St) (F0 : Fp) (A0p : Option Addr) (c0p : Nat) (p0 : List (Int)) (p1 : Int) (hH : Hp sb s F0 s [Ck.ol OI 3 A0p c0p p0]) (r : Int × (List (Int))) (H : laws_markIntS.f p0 p1 = some r) : GCall Try.prog 89 #[.slice A0p p0.length c0p, .int .i64 p1] s (laws_markIntS.post sb s F0 A0p c0p p0 r) := by
 refine GCall_ofk [.tmp 4] [.slice A0p p0.length c0p, .int .i64 p1, undef, undef, undef, undef, undef, undef, undef, undef, undef, undef, undef, undef, undef, undef, undef, undef, undef] Try.func89 rfl rfl rfl ?_
 intro w Q hQr hQn hQp
 replace H := topE H
 unfold laws_markIntS.f at H
 refine HT_seq_k ?_
 intro K1 hK1
 refine HT_region ?_
 refine HL_cons rfl ?_
 refine o_assign ?_
 try dsimp only [putL, setL, evL, getL]
 refine HL_nil ?_
 refine hK1 _ _ ?_
 refine HT_seq_k ?_
 intro K2 hK2
 refine HT_seq_k ?_
 intro K3 hK3
 refine HT_region ?_
 refine HL_cons rfl ?_
 refine o_assign ?_
 try dsimp only [putL, setL, evL, getL]
 refine HL_nil ?_
 refine hK3 _ _ ?_
 refine joinH H fun G4 hG4 H => ?_
 refine HT_toK (fun l' s' => ∃ (x33 : Int) (x34 : List (Int)), G4 (x33, x34) = some r ∧ l' = [.slice A0p p0.length c0p, .int .i64 x33, undef, undef, .int .i64 0, getL l' 5, getL l' 6, getL l' 7, getL l' 8, getL l' 9, getL l' 10, getL l' 11, getL l' 12, getL l' 13, getL l' 14, getL l' 15, getL l' 16, getL l' 17, undef] ∧ Hp sb s F0 s' [Ck.ol OI 3 A0p c0p x34] ∧ x34.length = p0.length) ?_ ?_
 ·intro K4 hK4
  refine HT_block ?_
  refine HT_loopK (fun kf l' s' => ∃ (x42 : List (Int)) (x43 : Int) (x44 : Int), (laws_markIntS.l1 p0 kf x42 x43 x44).bind G4 = some r ∧ l' = [.slice A0p p0.length c0p, .int .i64 x43, undef, undef, .int .i64 0, .int .i64 x44, getL l' 6, getL l' 7, getL l' 8, getL l' 9, getL l' 10, getL l' 11, getL l' 12, getL l' 13, getL l' 14, getL l' 15, getL l' 16, getL l' 17, undef] ∧ Hp sb s F0 s' [Ck.ol OI 3 A0p c0p x42] ∧ x42.length = p0.length) ((((p0.length : Int)) - (0)).toNat + 2) ⟨p0, p1, 0, H, rfl, hH, rfl⟩ ?_
  rintro kf l' s55 ⟨x42, x43, x44, H, hl, hH, hl42⟩ K55 hK55
  generalize getL l' 6 = j6, getL l' 7 = j7, getL l' 8 = j8, getL l' 9 = j9, getL l' 10 = j10, getL l' 11 = j11, getL l' 12 = j12, getL l' 13 = j13, getL l' 14 = j14, getL l' 15 = j15, getL l' 16 = j16, getL l' 17 = j17 at hl
  subst hl
  cases kf with
  | zero => simp [laws_markIntS.l1] at H
  | succ kf =>
   rw [laws_markIntS.l1] at H
   refine HT_seq_k ?_
   intro K56 hK56
   refine HT_seq_k ?_
   intro K57 hK57
   refine HT_region ?_
   refine HL_cons rfl ?_
   refine o_move ?_
   try dsimp only [putL, setL, evL, getL]
   refine HL_cons rfl ?_
   refine o_move ?_
   try dsimp only [putL, setL, evL, getL]
   refine HL_cons rfl ?_
   refine o_len rfl Try.underlying24 ?_
   try dsimp only [putL, setL, evL, getL]
   refine HL_cons rfl ?_
   refine o_bin rfl rfl rfl ?_
   try dsimp only [putL, setL, evL, getL]
   refine HL_nil ?_
   refine hK57 _ _ ?_
   rcases Bool.eq_false_or_eq_true (decide (x44 < (p0.length : Int))) with hb58 | hb58
   ·replace H := iteT hb58 H
    refine HT_true (congrArg Value.bool hb58) ?_
    refine HT_skip ?_
    refine hK56 _ _ ?_
    refine HT_seq_k ?_
    intro K59 hK59
    refine HT_block ?_
    refine HT_seq_k ?_
    intro K60 hK60
    refine HT_region ?_
    refine HL_cons rfl ?_
    refine o_move ?_
    try dsimp only [putL, setL, evL, getL]
    refine HL_cons rfl ?_
    refine o_move ?_
    try dsimp only [putL, setL, evL, getL]
    refine HL_cons rfl ?_
    refine o_move ?_
    try dsimp only [putL, setL, evL, getL]
    replace H := headE H
    obtain ⟨u61, hu61, H⟩ := H
    obtain ⟨b61, o61, cs61, hA61, hr61, hh61, hel61⟩ := hH.elo 0 rfl hu61
    obtain rfl := hr61
    refine HL_cons rfl ?_
    refine hel61 s55 (sliceLen hl42) rfl Try.underlying24 tI3 ?_
    try dsimp only [putL, setL, evL, getL]
    replace H := headE H
    obtain ⟨x62, hx62, H⟩ := H
    refine HL_cons rfl ?_
    refine o_setF (vs := [.int .i64 x43]) (u := x43) hH 0 rfl rfl rfl rfl rfl tI3 hA61 hx62 (Ent.own (Ent.flat rfl)) ?_
    intro s62 hH'
    have hl62 := (st?_len hx62).trans hl42
    replace hH : Hp sb s F0 s62 [Ck.ol OI 3 A0p c0p x62] := hH'
    clear hH'
    try dsimp only [putL, setL, evL, getL]
    refine HL_nil ?_
    refine hK60 _ _ ?_
    refine HT_region ?_
    refine HL_cons rfl ?_
    refine o_move ?_
    try dsimp only [putL, setL, evL, getL]
    refine HL_cons rfl ?_
    refine o_bin rfl rfl rfl ?_
    try dsimp only [putL, setL, evL, getL]
    refine HL_cons rfl ?_
    refine o_assign ?_
    try dsimp only [putL, setL, evL, getL]
    refine HL_nil ?_
    refine hK59 _ _ ?_
    refine HT_region ?_
    refine HL_cons rfl ?_
    refine o_move ?_
    try dsimp only [putL, setL, evL, getL]
    refine HL_cons rfl ?_
    refine o_bin rfl rfl rfl ?_
    try dsimp only [putL, setL, evL, getL]
    refine HL_cons rfl ?_
    refine o_assign ?_
    try dsimp only [putL, setL, evL, getL]
    refine HL_nil ?_
    exact hK55 _ _ ⟨kf, Nat.lt_succ_self kf, x62, IntKind.i64.wrap (x43 + 1), IntKind.i64.wrap (x44 + 1), H, rfl, hH, hl62⟩
   ·replace H := iteF hb58 H
    refine HT_false (congrArg Value.bool hb58) ?_
    refine HT_exit ?_
    exact hK4 _ _ ⟨x43, x42, H, rfl, hH, hl42⟩
 ·rintro l' s63 ⟨x33, x34, H, hl, hH, hl34⟩
  generalize getL l' 5 = j5, getL l' 6 = j6, getL l' 7 = j7, getL l' 8 = j8, getL l' 9 = j9, getL l' 10 = j10, getL l' 11 = j11, getL l' 12 = j12, getL l' 13 = j13, getL l' 14 = j14, getL l' 15 = j15, getL l' 16 = j16, getL l' 17 = j17 at hl
  subst hl
  replace H := hG4 _ H
  try dsimp only at H
  refine hK2 _ _ ?_
  refine HT_seq_k ?_
  intro K64 hK64
  refine HT_region ?_
  refine HL_cons rfl ?_
  refine o_move ?_
  try dsimp only [putL, setL, evL, getL]
  refine HL_cons rfl ?_
  refine o_assign ?_
  try dsimp only [putL, setL, evL, getL]
  refine HL_nil ?_
  refine hK64 _ _ ?_
  refine HT_ret ?_
  exact hQr _ _ [.int .i64 x33] ⟨rfl, trivial⟩ (retH (fun r => laws_markIntS.post sb s F0 A0p c0p p0 r _ _) (show some _ = some r from H) ⟨rfl, hH, hl34⟩)
def laws_markReS.l1 (p0 : List ((Int) × (List (Int)))) : Nat → (List ((Int) × (List (Int)))) → Int → Int → Option (Int × (List ((Int) × (List (Int)))))
 | 0, _, _, _ => none
 | kf + 1, x78, x79, x80 => if (decide (x80 < (p0.length : Int))) = true then ((rd? x78 x80).bind fun u106 => (st? x78 x80 (x79, u106.2)).bind fun x108 => (rd? x108 x80).bind fun u110 => (laws_markIntS.f u110.2 (IntKind.i64.wrap (x79 + 1))).bind fun u114 => (st? x108 x80 (u110.1, u114.2)).bind fun x116 => laws_markReS.l1 p0 kf x116 u114.1 (IntKind.i64.wrap (x80 + 1))) else (some (x79, x78))
def laws_markReS.f (p0 : List ((Int) × (List (Int)))) (p1 : Int) : Option (Int × (List ((Int) × (List (Int))))) := (laws_markReS.l1 p0 ((((p0.length : Int)) - (0)).toNat + 2) p0 p1 0).bind fun (o : Int × (List ((Int) × (List (Int))))) => match o with | (x60, x61) => (some (x60, x61))
def laws_markReS.post (sb s : St) (F0 : Fp) (A0p : Option Addr) (c0p : Nat) (p0 : List ((Int) × (List (Int)))) (r : Int × (List ((Int) × (List (Int))))) : Value → St → Prop := fun v s' => v = .int .i64 r.1 ∧ Hp sb s F0 s' [Ck.ol OS139 139 A0p c0p r.2] ∧ r.2.length = p0.length
set_option maxRecDepth 100000 in
set_option maxHeartbeats 4000000 in
theorem laws_markReS.ok (sb s : St) (F0 : Fp) (A0p : Option Addr) (c0p : Nat) (p0 : List ((Int) × (List (Int)))) (p1 : Int) (hH : Hp sb s F0 s [Ck.ol OS139 139 A0p c0p p0]) (r : Int × (List ((Int) × (List (Int))))) (H : laws_markReS.f p0 p1 = some r) : GCall Try.prog 45 #[.slice A0p p0.length c0p, .int .i64 p1] s (laws_markReS.post sb s F0 A0p c0p p0 r) := by
 refine GCall_ofk [.tmp 4] [.slice A0p p0.length c0p, .int .i64 p1, undef, undef, undef, undef, undef, undef, undef, undef, undef, undef, undef, undef, undef, undef, undef, undef, undef, undef, undef, undef, undef, undef, undef, undef, undef] Try.func45 rfl rfl rfl ?_
 intro w Q hQr hQn hQp
 replace H := topE H
 unfold laws_markReS.f at H
 refine HT_seq_k ?_
 intro K1 hK1
 refine HT_region ?_
 refine HL_cons rfl ?_
 refine o_assign ?_
 try dsimp only [putL, setL, evL, getL]
 refine HL_nil ?_
 refine hK1 _ _ ?_
 refine HT_seq_k ?_
 intro K2 hK2
 refine HT_seq_k ?_
 intro K3 hK3
 refine HT_region ?_
 refine HL_cons rfl ?_
 refine o_assign ?_
 try dsimp only [putL, setL, evL, getL]
 refine HL_nil ?_
 refine hK3 _ _ ?_
 refine joinH H fun G4 hG4 H => ?_
 refine HT_toK (fun l' s' => ∃ (x60 : Int) (x61 : List ((Int) × (List (Int)))), G4 (x60, x61) = some r ∧ l' = [.slice A0p p0.length c0p, .int .i64 x60, undef, undef, .int .i64 0, getL l' 5, getL l' 6, getL l' 7, getL l' 8, getL l' 9, getL l' 10, getL l' 11, getL l' 12, getL l' 13, getL l' 14, getL l' 15, getL l' 16, getL l' 17, getL l' 18, getL l' 19, getL l' 20, getL l' 21, getL l' 22, getL l' 23, getL l' 24, getL l' 25, undef] ∧ Hp sb s F0 s' [Ck.ol OS139 139 A0p c0p x61] ∧ x61.length = p0.length) ?_ ?_
 ·intro K4 hK4
  refine HT_block ?_
  refine HT_loopK (fun kf l' s' => ∃ (x78 : List ((Int) × (List (Int)))) (x79 : Int) (x80 : Int), (laws_markReS.l1 p0 kf x78 x79 x80).bind G4 = some r ∧ l' = [.slice A0p p0.length c0p, .int .i64 x79, undef, undef, .int .i64 0, .int .i64 x80, getL l' 6, getL l' 7, getL l' 8, getL l' 9, getL l' 10, getL l' 11, getL l' 12, getL l' 13, getL l' 14, getL l' 15, getL l' 16, getL l' 17, getL l' 18, getL l' 19, getL l' 20, getL l' 21, getL l' 22, getL l' 23, getL l' 24, getL l' 25, undef] ∧ Hp sb s F0 s' [Ck.ol OS139 139 A0p c0p x78] ∧ x78.length = p0.length) ((((p0.length : Int)) - (0)).toNat + 2) ⟨p0, p1, 0, H, rfl, hH, rfl⟩ ?_
  rintro kf l' s100 ⟨x78, x79, x80, H, hl, hH, hl78⟩ K100 hK100
  generalize getL l' 6 = j6, getL l' 7 = j7, getL l' 8 = j8, getL l' 9 = j9, getL l' 10 = j10, getL l' 11 = j11, getL l' 12 = j12, getL l' 13 = j13, getL l' 14 = j14, getL l' 15 = j15, getL l' 16 = j16, getL l' 17 = j17, getL l' 18 = j18, getL l' 19 = j19, getL l' 20 = j20, getL l' 21 = j21, getL l' 22 = j22, getL l' 23 = j23, getL l' 24 = j24, getL l' 25 = j25 at hl
  subst hl
  cases kf with
  | zero => simp [laws_markReS.l1] at H
  | succ kf =>
   rw [laws_markReS.l1] at H
   refine HT_seq_k ?_
   intro K101 hK101
   refine HT_seq_k ?_
   intro K102 hK102
   refine HT_region ?_
   refine HL_cons rfl ?_
   refine o_move ?_
   try dsimp only [putL, setL, evL, getL]
   refine HL_cons rfl ?_
   refine o_move ?_
   try dsimp only [putL, setL, evL, getL]
   refine HL_cons rfl ?_
   refine o_len rfl Try.underlying57 ?_
   try dsimp only [putL, setL, evL, getL]
   refine HL_cons rfl ?_
   refine o_bin rfl rfl rfl ?_
   try dsimp only [putL, setL, evL, getL]
   refine HL_nil ?_
   refine hK102 _ _ ?_
   rcases Bool.eq_false_or_eq_true (decide (x80 < (p0.length : Int))) with hb103 | hb103
   ·replace H := iteT hb103 H
    refine HT_true (congrArg Value.bool hb103) ?_
    refine HT_skip ?_
    refine hK101 _ _ ?_
    refine HT_seq_k ?_
    intro K104 hK104
    refine HT_block ?_
    refine HT_seq_k ?_
    intro K105 hK105
    refine HT_region ?_
    refine HL_cons rfl ?_
    refine o_move ?_
    try dsimp only [putL, setL, evL, getL]
    refine HL_cons rfl ?_
    refine o_move ?_
    try dsimp only [putL, setL, evL, getL]
    refine HL_cons rfl ?_
    refine o_move ?_
    try dsimp only [putL, setL, evL, getL]
    replace H := headE H
    obtain ⟨u106, hu106, H⟩ := H
    obtain ⟨b106, o106, cs106, hA106, hr106, hh106, hel106⟩ := hH.elo 0 rfl hu106
    obtain ⟨_, _, rfl, rfl, ⟨A107, c107, rfl, D107⟩⟩ := hr106
    refine HL_cons rfl ?_
    refine hel106 s100 (sliceLen hl78) rfl Try.underlying57 tI139 ?_
    try dsimp only [putL, setL, evL, getL]
    refine HL_cons rfl ?_
    refine o_faddr' (ft := 3) (off := 0) rfl Try.underlying139 rfl tI3 (by decide) ?_
    try dsimp only [putL, setL, evL, getL]
    replace H := headE H
    obtain ⟨x108, hx108, H⟩ := H
    refine HL_cons rfl ?_
    refine o_setf (u := u106) (u' := (x79, u106.2)) (off := 0) hH 0 rfl rfl rfl rfl tI3 hA106 hu106 (Fup.left Fup.int) hx108 ?_
    intro s108 hH'
    have hl108 := (st?_len hx108).trans hl78
    replace hH : Hp sb s F0 s108 [Ck.ol OS139 139 A0p c0p x108] := hH'
    clear hH'
    try dsimp only [putL, setL, evL, getL]
    refine HL_nil ?_
    refine hK105 _ _ ?_
    refine HT_seq_k ?_
    intro K109 hK109
    refine HT_region ?_
    refine HL_cons rfl ?_
    refine o_move ?_
    try dsimp only [putL, setL, evL, getL]
    refine HL_cons rfl ?_
    refine o_bin rfl rfl rfl ?_
    try dsimp only [putL, setL, evL, getL]
    refine HL_cons rfl ?_
    refine o_assign ?_
    try dsimp only [putL, setL, evL, getL]
    refine HL_nil ?_
    refine hK109 _ _ ?_
    refine HT_region ?_
    refine HL_cons rfl ?_
    refine o_move ?_
    try dsimp only [putL, setL, evL, getL]
    refine HL_cons rfl ?_
    refine o_move ?_
    try dsimp only [putL, setL, evL, getL]
    replace H := headE H
    obtain ⟨u110, hu110, H⟩ := H
    obtain ⟨b110, o110, vs110, hA110, -, hH⟩ := hH.open 0 rfl rfl hu110
    dsimp only [addC, setC, rmC, selC, getC] at hH
    obtain ⟨v111, v112, rfl, hH⟩ := hH.el_pair 1 rfl rfl
    dsimp only [addC, setC, rmC, selC, getC] at hH
    obtain rfl := hH.el_rep 1 rfl
    replace hH := hH.drop 1 rfl
    dsimp only [addC, setC, rmC, selC, getC] at hH
    obtain ⟨A113, c113, rfl, hH⟩ := hH.el_sl 2 rfl rfl
    dsimp only [addC, setC, rmC, selC, getC] at hH
    replace hH : Hp sb s F0 s108 [Ck.oh OS139 139 A0p c0p x108 (Int.toNat x80) [.int .i64 u110.1, .slice A113 u110.2.length c113], Ck.emp, Ck.ol OI 3 A113 c113 u110.2] := hH
    refine HL_cons rfl ?_
    refine iaddr_of (K := KS139) hA110 hu110 s108 (sliceLen hl108) rfl Try.underlying57 tI139 ?_
    try dsimp only [putL, setL, evL, getL]
    refine HL_cons rfl ?_
    refine o_faddr' (ft := 24) (off := 1) rfl Try.underlying139 rfl tI24 (by decide) ?_
    try dsimp only [putL, setL, evL, getL]
    refine HL_cons rfl ?_
    refine o_load' rfl Try.underlying24 rfl (hH.hasoh 0 rfl hA110 1 _ rfl) ?_
    try dsimp only [putL, setL, evL, getL]
    refine HL_cons rfl ?_
    refine o_move ?_
    try dsimp only [putL, setL, evL, getL]
    replace H := headE H
    obtain ⟨u114, hu114, H⟩ := H
    obtain ⟨F1, hA, hB⟩ := hH.take [2] (by decide)
    dsimp only [addC, setC, rmC, selC, getC] at hA
    refine HL_cons rfl ?_
    refine o_call (args := #[.slice A113 u110.2.length c113, .int .i64 (IntKind.i64.wrap (x79 + 1))]) Try.func89 rfl rfl rfl (laws_markIntS.ok sb s108 F1 A113 c113 u110.2 (IntKind.i64.wrap (x79 + 1)) hA _ hu114) ?_
    rintro _ s114 ⟨rfl, hD, hl115⟩
    replace hH := hB _ _ _ (Up.refl _ _ _) hD
    clear hD hA hB
    dsimp only [addC, setC, rmC, selC, getC] at hH
    try dsimp only [putL, setL, evL, getL]
    refine HL_cons rfl ?_
    refine o_assign ?_
    try dsimp only [putL, setL, evL, getL]
    refine HL_nil ?_
    refine hK104 _ _ ?_
    refine HT_region ?_
    refine HL_cons rfl ?_
    refine o_move ?_
    try dsimp only [putL, setL, evL, getL]
    refine HL_cons rfl ?_
    refine o_bin rfl rfl rfl ?_
    try dsimp only [putL, setL, evL, getL]
    refine HL_cons rfl ?_
    refine o_assign ?_
    try dsimp only [putL, setL, evL, getL]
    refine HL_nil ?_
    replace hH := hH.conv [3] (by decide) (d := Ck.el OS139 [.int .i64 u110.1, .slice A113 u110.2.length c113] (u110.1, u114.2)) (Ent.pair (v1 := [.int .i64 u110.1]) (v2 := [.slice A113 u110.2.length c113]) (x1 := u110.1) (x2 := u114.2) (Ent.flat rfl) (Ent.slL hl115))
    dsimp only [addC, setC, rmC, selC, getC] at hH
    replace H := headE H
    obtain ⟨x116, hx116, H⟩ := H
    replace hH := hH.close (i := x80) 0 4 (by decide) rfl rfl rfl hx116
    dsimp only [addC, setC, rmC, selC, getC] at hH
    have hl116 := (st?_len hx116).trans hl108
    replace hH : Hp sb s F0 s114 [Ck.ol OS139 139 A0p c0p x116, Ck.emp, Ck.emp, Ck.emp, Ck.emp] := hH
    exact hK100 _ _ ⟨kf, Nat.lt_succ_self kf, x116, u114.1, IntKind.i64.wrap (x80 + 1), H, rfl, hH.sel [0] (by decide), hl116⟩
   ·replace H := iteF hb103 H
    refine HT_false (congrArg Value.bool hb103) ?_
    refine HT_exit ?_
    exact hK4 _ _ ⟨x79, x78, H, rfl, hH, hl78⟩
 ·rintro l' s117 ⟨x60, x61, H, hl, hH, hl61⟩
  generalize getL l' 5 = j5, getL l' 6 = j6, getL l' 7 = j7, getL l' 8 = j8, getL l' 9 = j9, getL l' 10 = j10, getL l' 11 = j11, getL l' 12 = j12, getL l' 13 = j13, getL l' 14 = j14, getL l' 15 = j15, getL l' 16 = j16, getL l' 17 = j17, getL l' 18 = j18, getL l' 19 = j19, getL l' 20 = j20, getL l' 21 = j21, getL l' 22 = j22, getL l' 23 = j23, getL l' 24 = j24, getL l' 25 = j25 at hl
  subst hl
  replace H := hG4 _ H
  try dsimp only at H
  refine hK2 _ _ ?_
  refine HT_seq_k ?_
  intro K118 hK118
  refine HT_region ?_
  refine HL_cons rfl ?_
  refine o_move ?_
  try dsimp only [putL, setL, evL, getL]
  refine HL_cons rfl ?_
  refine o_assign ?_
  try dsimp only [putL, setL, evL, getL]
  refine HL_nil ?_
  refine hK118 _ _ ?_
  refine HT_ret ?_
  exact hQr _ _ [.int .i64 x60] ⟨rfl, trivial⟩ (retH (fun r => laws_markReS.post sb s F0 A0p c0p p0 r _ _) (show some _ = some r from H) ⟨rfl, hH, hl61⟩)
def laws_heldIntS.l1 (p0 : List (Int)) : Nat → Int → Int → Option (Lo Int Int)
 | 0, _, _ => none
 | kf + 1, x47, x48 => if (decide (x48 < (p0.length : Int))) = true then ((rd? p0 x48).bind fun u67 => if (u67 != x47) = true then ((some (-1)).bind fun z => some (Lo.ret z)) else (laws_heldIntS.l1 p0 kf (IntKind.i64.wrap (x47 + 1)) (IntKind.i64.wrap (x48 + 1)))) else (some (Lo.go x47))
def laws_heldIntS.f (p0 : List (Int)) (p1 : Int) : Option Int := (laws_heldIntS.l1 p0 ((((p0.length : Int)) - (0)).toNat + 2) p1 0).bind fun (o : Lo Int Int) => match o with | .go x37 => (some x37) | .ret z => some z
def laws_heldIntS.post (sb s : St) (F0 : Fp) (r : Int) : Value → St → Prop := fun v s' => v = .int .i64 r ∧ Hp sb s F0 s' []
set_option maxRecDepth 100000 in
set_option maxHeartbeats 4000000 in
theorem laws_heldIntS.ok (sb s : St) (F0 : Fp) (A0p : Option Addr) (c0p : Nat) (p0 : List (Int)) (p1 : Int) (HRp0 : Rd KI sb A0p c0p p0) (hH : Hp sb s F0 s []) (r : Int) (H : laws_heldIntS.f p0 p1 = some r) : GCall Try.prog 90 #[.slice A0p p0.length c0p, .int .i64 p1] s (laws_heldIntS.post sb s F0 r) := by
 refine GCall_ofk [.tmp 4] [.slice A0p p0.length c0p, .int .i64 p1, undef, undef, undef, undef, undef, undef, undef, undef, undef, undef, undef, undef, undef, undef, undef, undef, undef, undef, undef] Try.func90 rfl rfl rfl ?_
 intro w Q hQr hQn hQp
 replace H := topE H
 unfold laws_heldIntS.f at H
 refine HT_seq_k ?_
 intro K1 hK1
 refine HT_region ?_
 refine HL_cons rfl ?_
 refine o_assign ?_
 try dsimp only [putL, setL, evL, getL]
 refine HL_nil ?_
 refine hK1 _ _ ?_
 refine HT_seq_k ?_
 intro K2 hK2
 refine HT_seq_k ?_
 intro K3 hK3
 refine HT_region ?_
 refine HL_cons rfl ?_
 refine o_assign ?_
 try dsimp only [putL, setL, evL, getL]
 refine HL_nil ?_
 refine hK3 _ _ ?_
 refine joinH H fun G4 hG4 H => ?_
 refine HT_toK (fun l' s' => ∃ (x37 : Int), G4 (.go x37) = some r ∧ l' = [.slice A0p p0.length c0p, .int .i64 x37, undef, undef, getL l' 4, getL l' 5, getL l' 6, getL l' 7, getL l' 8, getL l' 9, getL l' 10, getL l' 11, getL l' 12, getL l' 13, getL l' 14, getL l' 15, getL l' 16, getL l' 17, getL l' 18, getL l' 19, undef] ∧ Hp sb s F0 s' []) ?_ ?_
 ·intro K4 hK4
  refine HT_block ?_
  refine HT_loopK (fun kf l' s' => ∃ (x47 : Int) (x48 : Int), (laws_heldIntS.l1 p0 kf x47 x48).bind G4 = some r ∧ l' = [.slice A0p p0.length c0p, .int .i64 x47, undef, undef, getL l' 4, .int .i64 x48, getL l' 6, getL l' 7, getL l' 8, getL l' 9, getL l' 10, getL l' 11, getL l' 12, getL l' 13, getL l' 14, getL l' 15, getL l' 16, getL l' 17, getL l' 18, getL l' 19, undef] ∧ Hp sb s F0 s' []) ((((p0.length : Int)) - (0)).toNat + 2) ⟨p1, 0, H, rfl, hH⟩ ?_
  rintro kf l' s60 ⟨x47, x48, H, hl, hH⟩ K60 hK60
  generalize getL l' 4 = j4, getL l' 6 = j6, getL l' 7 = j7, getL l' 8 = j8, getL l' 9 = j9, getL l' 10 = j10, getL l' 11 = j11, getL l' 12 = j12, getL l' 13 = j13, getL l' 14 = j14, getL l' 15 = j15, getL l' 16 = j16, getL l' 17 = j17, getL l' 18 = j18, getL l' 19 = j19 at hl
  subst hl
  cases kf with
  | zero => simp [laws_heldIntS.l1] at H
  | succ kf =>
   rw [laws_heldIntS.l1] at H
   refine HT_seq_k ?_
   intro K61 hK61
   refine HT_seq_k ?_
   intro K62 hK62
   refine HT_region ?_
   refine HL_cons rfl ?_
   refine o_move ?_
   try dsimp only [putL, setL, evL, getL]
   refine HL_cons rfl ?_
   refine o_move ?_
   try dsimp only [putL, setL, evL, getL]
   refine HL_cons rfl ?_
   refine o_len rfl Try.underlying24 ?_
   try dsimp only [putL, setL, evL, getL]
   refine HL_cons rfl ?_
   refine o_bin rfl rfl rfl ?_
   try dsimp only [putL, setL, evL, getL]
   refine HL_nil ?_
   refine hK62 _ _ ?_
   rcases Bool.eq_false_or_eq_true (decide (x48 < (p0.length : Int))) with hb63 | hb63
   ·replace H := iteT hb63 H
    refine HT_true (congrArg Value.bool hb63) ?_
    refine HT_skip ?_
    refine hK61 _ _ ?_
    refine HT_seq_k ?_
    intro K64 hK64
    refine HT_block ?_
    refine HT_seq_k ?_
    intro K65 hK65
    refine HT_seq_k ?_
    intro K66 hK66
    refine HT_region ?_
    refine HL_cons rfl ?_
    refine o_move ?_
    try dsimp only [putL, setL, evL, getL]
    refine HL_cons rfl ?_
    refine o_move ?_
    try dsimp only [putL, setL, evL, getL]
    replace H := headE H
    obtain ⟨u67, hu67, H⟩ := H
    obtain ⟨b67, o67, cs67, hr67, hh67, hel67⟩ := Rd.elb HRp0 hu67
    obtain rfl := hr67
    refine HL_cons rfl ?_
    refine hel67 s60 rfl rfl Try.underlying24 tI3 ?_
    try dsimp only [putL, setL, evL, getL]
    refine HL_cons rfl ?_
    refine o_load' rfl Try.underlying3 rfl ((hh67 hH.bs.mono) 0 _ rfl) ?_
    try dsimp only [putL, setL, evL, getL]
    refine HL_cons rfl ?_
    refine o_move ?_
    try dsimp only [putL, setL, evL, getL]
    refine HL_cons rfl ?_
    refine o_bin rfl rfl rfl ?_
    try dsimp only [putL, setL, evL, getL]
    refine HL_nil ?_
    refine hK66 _ _ ?_
    rcases Bool.eq_false_or_eq_true (u67 != x47) with hb68 | hb68
    ·replace H := iteT hb68 H
     refine HT_true (congrArg Value.bool hb68) ?_
     refine HT_seq_k ?_
     intro K69 hK69
     refine HT_region ?_
     refine HL_cons rfl ?_
     refine o_assign ?_
     try dsimp only [putL, setL, evL, getL]
     refine HL_nil ?_
     refine hK69 _ _ ?_
     refine HT_ret ?_
     replace H := escH (fun z hz => hG4 _ hz) H
     exact hQr _ _ [.int .i64 (-1)] ⟨rfl, trivial⟩ (retH (fun r => laws_heldIntS.post sb s F0 r _ _) (show some _ = some r from H) ⟨rfl, hH⟩)
    ·replace H := iteF hb68 H
     refine HT_false (congrArg Value.bool hb68) ?_
     refine HT_skip ?_
     refine hK65 _ _ ?_
     refine HT_region ?_
     refine HL_cons rfl ?_
     refine o_move ?_
     try dsimp only [putL, setL, evL, getL]
     refine HL_cons rfl ?_
     refine o_bin rfl rfl rfl ?_
     try dsimp only [putL, setL, evL, getL]
     refine HL_cons rfl ?_
     refine o_assign ?_
     try dsimp only [putL, setL, evL, getL]
     refine HL_nil ?_
     refine hK64 _ _ ?_
     refine HT_region ?_
     refine HL_cons rfl ?_
     refine o_move ?_
     try dsimp only [putL, setL, evL, getL]
     refine HL_cons rfl ?_
     refine o_bin rfl rfl rfl ?_
     try dsimp only [putL, setL, evL, getL]
     refine HL_cons rfl ?_
     refine o_assign ?_
     try dsimp only [putL, setL, evL, getL]
     refine HL_nil ?_
     exact hK60 _ _ ⟨kf, Nat.lt_succ_self kf, IntKind.i64.wrap (x47 + 1), IntKind.i64.wrap (x48 + 1), H, rfl, hH⟩
   ·replace H := iteF hb63 H
    refine HT_false (congrArg Value.bool hb63) ?_
    refine HT_exit ?_
    exact hK4 _ _ ⟨x47, H, rfl, hH⟩
 ·rintro l' s70 ⟨x37, H, hl, hH⟩
  generalize getL l' 4 = j4, getL l' 5 = j5, getL l' 6 = j6, getL l' 7 = j7, getL l' 8 = j8, getL l' 9 = j9, getL l' 10 = j10, getL l' 11 = j11, getL l' 12 = j12, getL l' 13 = j13, getL l' 14 = j14, getL l' 15 = j15, getL l' 16 = j16, getL l' 17 = j17, getL l' 18 = j18, getL l' 19 = j19 at hl
  subst hl
  replace H := hG4 _ H
  try dsimp only at H
  refine hK2 _ _ ?_
  refine HT_seq_k ?_
  intro K71 hK71
  refine HT_region ?_
  refine HL_cons rfl ?_
  refine o_move ?_
  try dsimp only [putL, setL, evL, getL]
  refine HL_cons rfl ?_
  refine o_assign ?_
  try dsimp only [putL, setL, evL, getL]
  refine HL_nil ?_
  refine hK71 _ _ ?_
  refine HT_ret ?_
  exact hQr _ _ [.int .i64 x37] ⟨rfl, trivial⟩ (retH (fun r => laws_heldIntS.post sb s F0 r _ _) (show some _ = some r from H) ⟨rfl, hH⟩)
def laws_FnExactReplaceIn.f (p0 : List ((Int) × (List (Int)))) (p1 : List (Int)) (p2 : List (Int)) : Option Bool := if (decide ((p1.length : Int) > 1048576)) = true then (some true) else (if (decide ((p2.length : Int) > 1048576)) = true then (some true) else ((laws_szReS.f p0 1048576).bind fun u12 => if (decide (u12 < 0)) = true then (some true) else ((laws_toReS.f p0).bind fun u18 => (laws_toIntS.f p1).bind fun u20 => (laws_toIntS.f p2).bind fun u22 => (spec_ReplaceIn.f u18 u20 u22).bind fun u24 => (laws_toReS.f p0).bind fun u27 => (laws_toIntS.f p1).bind fun u30 => (laws_toIntS.f p2).bind fun u33 => (impl_ReplaceIn.f u27 u30 u33).bind fun u36 => ((laws_eqIntS.f u36.1 u24.1).bind fun u53 => if (!u53) = true then (some true) else (some (u36.2 != u24.2))).bind fun (o : Bool) => match o with | x52 => (if x52 = true then (some false) else ((laws_toReS.f p0).bind fun u60 => (laws_eqReS.f u27 u60).bind fun u62 => if (!u62) = true then (some false) else ((laws_toIntS.f p1).bind fun u67 => (laws_eqIntS.f u30 u67).bind fun u69 => if (!u69) = true then (some false) else ((laws_toIntS.f p2).bind fun u74 => (laws_eqIntS.f u33 u74).bind fun u76 => if (!u76) = true then (some false) else ((laws_markReS.f u27 1).bind fun u81 => (laws_markIntS.f u30 u81.1).bind fun u84 => (laws_markIntS.f u33 u84.1).bind fun u87 => (if (decide (u87.1 < 0)) = true then (some true) else ((laws_eqIntS.f u36.1 u24.1).bind fun u108 => if (!u108) = true then (some true) else (some (u36.2 != u24.2)))).bind fun (o : Bool) => match o with | x106 => (if x106 = true then (some false) else ((laws_markIntS.f u36.1 1).bind fun u115 => (laws_heldIntS.f u115.2 1).bind fun u119 => if (decide (u119 < 0)) = true then (some false) else (if (u119 != u115.1) = true then (some false) else ((laws_toReS.f p0).bind fun u129 => (laws_toIntS.f p1).bind fun u131 => (laws_toIntS.f p2).bind fun u133 => (impl_ReplaceIn.f u129 u131 u133).bind fun u135 => ((laws_eqIntS.f u135.1 u24.1).bind fun u152 => if (!u152) = true then (some true) else (some (u135.2 != u24.2))).bind fun (o : Bool) => match o with | x151 => (if x151 = true then (some false) else ((laws_heldIntS.f u115.2 1).bind fun u159 => if (decide (u159 < 0)) = true then (some false) else (if (u159 != u115.1) = true then (some false) else (some true))))))))))))))))
def laws_FnExactReplaceIn.post (sb s : St) (F0 : Fp) (r : Bool) : Value → St → Prop := fun v s' => v = .bool r ∧ Hp sb s F0 s' []
set_option maxRecDepth 100000 in
set_option maxHeartbeats 4000000 in
theorem laws_FnExactReplaceIn.ok (sb s : St) (F0 : Fp) (A0p : Option Addr) (c0p : Nat) (p0 : List ((Int) × (List (Int)))) (A1p : Option Addr) (c1p : Nat) (p1 : List (Int)) (A2p : Option Addr) (c2p : Nat) (p2 : List (Int)) (HRp0 : Rd KS135 sb A0p c0p p0) (HRp1 : Rd KI sb A1p c1p p1) (HRp2 : Rd KI sb A2p c2p p2) (hH : Hp sb s F0 s []) (r : Bool) (H : laws_FnExactReplaceIn.f p0 p1 p2 = some r) : GCall Try.prog 11 #[.slice A0p p0.length c0p, .slice A1p p1.length c1p, .slice A2p p2.length c2p] s (laws_FnExactReplaceIn.post sb s F0 r) := by
 refine GCall_ofk [.tmp 6] [.slice A0p p0.length c0p, .slice A1p p1.length c1p, .slice A2p p2.length c2p, undef, undef, undef, undef, undef, undef, undef, undef, undef, undef, undef, undef, undef, undef, undef, undef, undef, undef, undef, undef, undef, undef, undef, undef, undef, undef, undef, undef, undef, undef, undef, undef, undef, undef, undef, undef, undef, undef, undef, undef, undef, undef, undef, undef, undef, undef, undef, undef, undef, undef, undef, undef, undef, undef, undef, undef, undef, undef, undef, undef, undef, undef, undef, undef, undef, undef, undef, undef, undef, undef, undef, undef, undef, undef, undef, undef, undef, undef, undef, undef, undef, undef, undef, undef, undef, undef, undef, undef, undef, undef, undef, undef, undef, undef, undef, undef, undef, undef, undef, undef, undef, undef, undef, undef, undef, undef, undef, undef, undef, undef, undef, undef, undef, undef, undef, undef, undef, undef, undef, undef, undef, undef, undef, undef, undef, undef, undef, undef, undef, undef, undef, undef, undef, undef, undef] Try.func11 rfl rfl rfl ?_
 intro w Q hQr hQn hQp
 replace H := topE H
 unfold laws_FnExactReplaceIn.f at H
 refine HT_seq_k ?_
 intro K1 hK1
 refine HT_region ?_
 refine HL_cons rfl ?_
 refine o_assign ?_
 try dsimp only [putL, setL, evL, getL]
 refine HL_nil ?_
 refine hK1 _ _ ?_
 refine HT_seq_k ?_
 intro K2 hK2
 refine HT_seq_k ?_
 intro K3 hK3
 refine HT_region ?_
 refine HL_cons rfl ?_
 refine o_move ?_
 try dsimp only [putL, setL, evL, getL]
 refine HL_cons rfl ?_
 refine o_len rfl Try.underlying24 ?_
 try dsimp only [putL, setL, evL, getL]
 refine HL_cons rfl ?_
 refine o_bin rfl rfl rfl ?_
 try dsimp only [putL, setL, evL, getL]
 refine HL_nil ?_
 refine hK3 _ _ ?_
 rcases Bool.eq_false_or_eq_true (decide ((p1.length : Int) > 1048576)) with hb4 | hb4
 ·replace H := iteT hb4 H
  refine HT_true (congrArg Value.bool hb4) ?_
  refine HT_seq_k ?_
  intro K5 hK5
  refine HT_region ?_
  refine HL_cons rfl ?_
  refine o_assign ?_
  try dsimp only [putL, setL, evL, getL]
  refine HL_nil ?_
  refine hK5 _ _ ?_
  refine HT_ret ?_
  exact hQr _ _ [.bool true] ⟨rfl, trivial⟩ (retH (fun r => laws_FnExactReplaceIn.post sb s F0 r _ _) (show some _ = some r from H) ⟨rfl, hH⟩)
 ·replace H := iteF hb4 H
  refine HT_false (congrArg Value.bool hb4) ?_
  refine HT_skip ?_
  refine hK2 _ _ ?_
  refine HT_seq_k ?_
  intro K6 hK6
  refine HT_seq_k ?_
  intro K7 hK7
  refine HT_region ?_
  refine HL_cons rfl ?_
  refine o_move ?_
  try dsimp only [putL, setL, evL, getL]
  refine HL_cons rfl ?_
  refine o_len rfl Try.underlying24 ?_
  try dsimp only [putL, setL, evL, getL]
  refine HL_cons rfl ?_
  refine o_bin rfl rfl rfl ?_
  try dsimp only [putL, setL, evL, getL]
  refine HL_nil ?_
  refine hK7 _ _ ?_
  rcases Bool.eq_false_or_eq_true (decide ((p2.length : Int) > 1048576)) with hb8 | hb8
  ·replace H := iteT hb8 H
   refine HT_true (congrArg Value.bool hb8) ?_
   refine HT_seq_k ?_
   intro K9 hK9
   refine HT_region ?_
   refine HL_cons rfl ?_
   refine o_assign ?_
   try dsimp only [putL, setL, evL, getL]
   refine HL_nil ?_
   refine hK9 _ _ ?_
   refine HT_ret ?_
   exact hQr _ _ [.bool true] ⟨rfl, trivial⟩ (retH (fun r => laws_FnExactReplaceIn.post sb s F0 r _ _) (show some _ = some r from H) ⟨rfl, hH⟩)
  ·replace H := iteF hb8 H
   refine HT_false (congrArg Value.bool hb8) ?_
   refine HT_skip ?_
   refine hK6 _ _ ?_
   refine HT_seq_k ?_
   intro K10 hK10
   refine HT_region ?_
   refine HL_cons rfl ?_
   refine o_assign ?_
   try dsimp only [putL, setL, evL, getL]
   refine HL_nil ?_
   refine hK10 _ _ ?_
   refine HT_seq_k ?_
   intro K11 hK11
   refine HT_region ?_
   refine HL_cons rfl ?_
   refine o_move ?_
   try dsimp only [putL, setL, evL, getL]
   refine HL_cons rfl ?_
   refine o_move ?_
   try dsimp only [putL, setL, evL, getL]
   replace H := headE H
   obtain ⟨u12, hu12, H⟩ := H
   refine HL_cons rfl ?_
   refine o_call (args := #[.slice A0p p0.length c0p, .int .i64 1048576]) Try.func37 rfl rfl rfl (laws_szReS.ok sb s no A0p c0p p0 1048576 HRp0 (Hp.own hH.bs) _ hu12) ?_
   rintro _ s12 ⟨rfl, hD⟩
   replace hH := hH.back0 hD (Up.refl _ _ _)
   clear hD
   dsimp only [addC, setC, rmC, selC, getC] at hH
   try dsimp only [putL, setL, evL, getL]
   refine HL_cons rfl ?_
   refine o_assign ?_
   try dsimp only [putL, setL, evL, getL]
   refine HL_nil ?_
   refine hK11 _ _ ?_
   refine HT_seq_k ?_
   intro K13 hK13
   refine HT_seq_k ?_
   intro K14 hK14
   refine HT_region ?_
   refine HL_cons rfl ?_
   refine o_move ?_
   try dsimp only [putL, setL, evL, getL]
   refine HL_cons rfl ?_
   refine o_bin rfl rfl rfl ?_
   try dsimp only [putL, setL, evL, getL]
   refine HL_nil ?_
   refine hK14 _ _ ?_
   rcases Bool.eq_false_or_eq_true (decide (u12 < 0)) with hb15 | hb15
   ·replace H := iteT hb15 H
    refine HT_true (congrArg Value.bool hb15) ?_
    refine HT_seq_k ?_
    intro K16 hK16
    refine HT_region ?_
    refine HL_cons rfl ?_
    refine o_assign ?_
    try dsimp only [putL, setL, evL, getL]
    refine HL_nil ?_
    refine hK16 _ _ ?_
    refine HT_ret ?_
    exact hQr _ _ [.bool true] ⟨rfl, trivial⟩ (retH (fun r => laws_FnExactReplaceIn.post sb s F0 r _ _) (show some _ = some r from H) ⟨rfl, hH⟩)
   ·replace H := iteF hb15 H
    refine HT_false (congrArg Value.bool hb15) ?_
    refine HT_skip ?_
    refine hK13 _ _ ?_
    refine HT_seq_k ?_
    intro K17 hK17
    refine HT_region ?_
    refine HL_cons rfl ?_
    refine o_move ?_
    try dsimp only [putL, setL, evL, getL]
    replace H := headE H
    obtain ⟨u18, hu18, H⟩ := H
    refine HL_cons rfl ?_
    refine o_call (args := #[.slice A0p p0.length c0p]) Try.func40 rfl rfl rfl (laws_toReS.ok sb s12 no A0p c0p p0 HRp0 (Hp.own hH.bs) _ hu18) ?_
    rintro _ s18 ⟨A19, c19, rfl, hD⟩
    replace hH := hH.back0 hD (Up.refl _ _ _)
    clear hD
    dsimp only [addC, setC, rmC, selC, getC] at hH
    try dsimp only [putL, setL, evL, getL]
    refine HL_cons rfl ?_
    refine o_move ?_
    try dsimp only [putL, setL, evL, getL]
    replace H := headE H
    obtain ⟨u20, hu20, H⟩ := H
    refine HL_cons rfl ?_
    refine o_call (args := #[.slice A1p p1.length c1p]) Try.func61 rfl rfl rfl (laws_toIntS.ok sb s18 no A1p c1p p1 HRp1 (Hp.own hH.bs) _ hu20) ?_
    rintro _ s20 ⟨A21, c21, rfl, hD⟩
    replace hH := hH.back0 hD (Up.refl _ _ _)
    clear hD
    dsimp only [addC, setC, rmC, selC, getC] at hH
    try dsimp only [putL, setL, evL, getL]
    refine HL_cons rfl ?_
    refine o_move ?_
    try dsimp only [putL, setL, evL, getL]
    replace H := headE H
    obtain ⟨u22, hu22, H⟩ := H
    refine HL_cons rfl ?_
    refine o_call (args := #[.slice A2p p2.length c2p]) Try.func61 rfl rfl rfl (laws_toIntS.ok sb s20 no A2p c2p p2 HRp2 (Hp.own hH.bs) _ hu22) ?_
    rintro _ s22 ⟨A23, c23, rfl, hD⟩
    replace hH := hH.back0 hD (Up.refl _ _ _)
    clear hD
    dsimp only [addC, setC, rmC, selC, getC] at hH
    try dsimp only [putL, setL, evL, getL]
    replace H := headE H
    obtain ⟨u24, hu24, H⟩ := H
    refine HL_cons rfl ?_
    refine o_call (args := #[.slice A19 u18.length c19, .slice A21 u20.length c21, .slice A23 u22.length c23]) Try.func87 rfl rfl rfl (spec_ReplaceIn.ok s22 s22 no A19 c19 u18 A21 c21 u20 A23 c23 u22 (hH.rd 0 rfl) (hH.rd 1 rfl) (hH.rd 2 rfl) (Hp.own (Bs.refl s22)) _ hu24) ?_
    rintro _ s24 ⟨A25, c25, rfl, hD⟩
    replace hH := hH.back0T hD
    clear hD
    dsimp only [addC, setC, rmC, selC, getC] at hH
    try dsimp only [putL, setL, evL, getL]
    refine HL_cons rfl ?_
    refine o_move ?_
    try dsimp only [putL, setL, evL, getL]
    refine HL_cons rfl ?_
    refine o_extract rfl rfl ?_
    try dsimp only [putL, setL, evL, getL]
    refine HL_cons rfl ?_
    refine o_extract rfl rfl ?_
    try dsimp only [putL, setL, evL, getL]
    refine HL_cons rfl ?_
    refine o_assign ?_
    try dsimp only [putL, setL, evL, getL]
    refine HL_cons rfl ?_
    refine o_assign ?_
    try dsimp only [putL, setL, evL, getL]
    refine HL_nil ?_
    refine hK17 _ _ ?_
    refine HT_seq_k ?_
    intro K26 hK26
    refine HT_region ?_
    refine HL_cons rfl ?_
    refine o_move ?_
    try dsimp only [putL, setL, evL, getL]
    replace H := headE H
    obtain ⟨u27, hu27, H⟩ := H
    refine HL_cons rfl ?_
    refine o_call (args := #[.slice A0p p0.length c0p]) Try.func40 rfl rfl rfl (laws_toReS.ok sb s24 no A0p c0p p0 HRp0 (Hp.own hH.bs) _ hu27) ?_
    rintro _ s27 ⟨A28, c28, rfl, hD⟩
    replace hH := hH.back0 hD (Up.refl _ _ _)
    clear hD
    dsimp only [addC, setC, rmC, selC, getC] at hH
    try dsimp only [putL, setL, evL, getL]
    refine HL_cons rfl ?_
    refine o_assign ?_
    try dsimp only [putL, setL, evL, getL]
    refine HL_nil ?_
    refine hK26 _ _ ?_
    refine HT_seq_k ?_
    intro K29 hK29
    refine HT_region ?_
    refine HL_cons rfl ?_
    refine o_move ?_
    try dsimp only [putL, setL, evL, getL]
    replace H := headE H
    obtain ⟨u30, hu30, H⟩ := H
    refine HL_cons rfl ?_
    refine o_call (args := #[.slice A1p p1.length c1p]) Try.func61 rfl rfl rfl (laws_toIntS.ok sb s27 no A1p c1p p1 HRp1 (Hp.own hH.bs) _ hu30) ?_
    rintro _ s30 ⟨A31, c31, rfl, hD⟩
    replace hH := hH.back0 hD (Up.refl _ _ _)
    clear hD
    dsimp only [addC, setC, rmC, selC, getC] at hH
    try dsimp only [putL, setL, evL, getL]
    refine HL_cons rfl ?_
    refine o_assign ?_
    try dsimp only [putL, setL, evL, getL]
    refine HL_nil ?_
    refine hK29 _ _ ?_
    refine HT_seq_k ?_
    intro K32 hK32
    refine HT_region ?_
    refine HL_cons rfl ?_
    refine o_move ?_
    try dsimp only [putL, setL, evL, getL]
    replace H := headE H
    obtain ⟨u33, hu33, H⟩ := H
    refine HL_cons rfl ?_
    refine o_call (args := #[.slice A2p p2.length c2p]) Try.func61 rfl rfl rfl (laws_toIntS.ok sb s30 no A2p c2p p2 HRp2 (Hp.own hH.bs) _ hu33) ?_
    rintro _ s33 ⟨A34, c34, rfl, hD⟩
    replace hH := hH.back0 hD (Up.refl _ _ _)
    clear hD
    dsimp only [addC, setC, rmC, selC, getC] at hH
    try dsimp only [putL, setL, evL, getL]
    refine HL_cons rfl ?_
    refine o_assign ?_
    try dsimp only [putL, setL, evL, getL]
    refine HL_nil ?_
    refine hK32 _ _ ?_
    refine HT_seq_k ?_
    intro K35 hK35
    refine HT_region ?_
    refine HL_cons rfl ?_
    refine o_move ?_
    try dsimp only [putL, setL, evL, getL]
    refine HL_cons rfl ?_
    refine o_move ?_
    try dsimp only [putL, setL, evL, getL]
    refine HL_cons rfl ?_
    refine o_move ?_
    try dsimp only [putL, setL, evL, getL]
    replace H := headE H
    obtain ⟨u36, hu36, H⟩ := H
    refine HL_cons rfl ?_
    refine o_call (args := #[.slice A28 u27.length c28, .slice A31 u30.length c31, .slice A34 u33.length c34]) Try.func88 rfl rfl rfl (impl_ReplaceIn.ok s33 s33 no A28 c28 u27 A31 c31 u30 A34 c34 u33 (hH.rd 4 rfl) (hH.rd 5 rfl) (hH.rd 6 rfl) (Hp.own (Bs.refl s33)) _ hu36) ?_
    rintro _ s36 ⟨A37, c37, rfl, hD⟩
    replace hH := hH.back0T hD
    clear hD
    dsimp only [addC, setC, rmC, selC, getC] at hH
    try dsimp only [putL, setL, evL, getL]
    refine HL_cons rfl ?_
    refine o_move ?_
    try dsimp only [putL, setL, evL, getL]
    refine HL_cons rfl ?_
    refine o_extract rfl rfl ?_
    try dsimp only [putL, setL, evL, getL]
    refine HL_cons rfl ?_
    refine o_extract rfl rfl ?_
    try dsimp only [putL, setL, evL, getL]
    refine HL_cons rfl ?_
    refine o_assign ?_
    try dsimp only [putL, setL, evL, getL]
    refine HL_cons rfl ?_
    refine o_assign ?_
    try dsimp only [putL, setL, evL, getL]
    refine HL_nil ?_
    refine hK35 _ _ ?_
    refine HT_seq_k ?_
    intro K48 hK48
    refine joinH H fun G49 hG49 H => ?_
    refine HT_joinK (fun l' s' => ∃ (x52 : Bool), G49 x52 = some r ∧ l' = [.slice A0p p0.length c0p, .slice A1p p1.length c1p, .slice A2p p2.length c2p, undef, undef, undef, .bool false, .int .i64 u12, .slice A25 u24.1.length c25, .bool u24.2, .slice A28 u27.length c28, .slice A31 u30.length c31, .slice A34 u33.length c34, .slice A37 u36.1.length c37, .bool u36.2, undef, undef, undef, undef, undef, .slice A1p p1.length c1p, .int .i64 (p1.length : Int), .bool (decide ((p1.length : Int) > 1048576)), .slice A2p p2.length c2p, .int .i64 (p2.length : Int), .bool (decide ((p2.length : Int) > 1048576)), .slice A0p p0.length c0p, .int .i64 1048576, .int .i64 u12, .int .i64 u12, .bool (decide (u12 < 0)), .tuple #[.slice A25 u24.1.length c25, .bool u24.2], .slice A0p p0.length c0p, .slice A19 u18.length c19, .slice A1p p1.length c1p, .slice A21 u20.length c21, .slice A2p p2.length c2p, .slice A23 u22.length c23, .tuple #[.slice A25 u24.1.length c25, .bool u24.2], .slice A25 u24.1.length c25, .bool u24.2, .slice A0p p0.length c0p, .slice A28 u27.length c28, .slice A1p p1.length c1p, .slice A31 u30.length c31, .slice A2p p2.length c2p, .slice A34 u33.length c34, .tuple #[.slice A37 u36.1.length c37, .bool u36.2], .slice A28 u27.length c28, .slice A31 u30.length c31, .slice A34 u33.length c34, .tuple #[.slice A37 u36.1.length c37, .bool u36.2], .slice A37 u36.1.length c37, .bool u36.2, getL l' 54, getL l' 55, getL l' 56, getL l' 57, getL l' 58, getL l' 59, getL l' 60, getL l' 61, .bool x52, undef, undef, undef, undef, undef, undef, undef, undef, undef, undef, undef, undef, undef, undef, undef, undef, undef, undef, undef, undef, undef, undef, undef, undef, undef, undef, undef, undef, undef, undef, undef, undef, undef, undef, undef, undef, undef, undef, undef, undef, undef, undef, undef, undef, undef, undef, undef, undef, undef, undef, undef, undef, undef, undef, undef, undef, undef, undef, undef, undef, undef, undef, undef, undef, undef, undef, undef, undef, undef, undef, undef, undef, undef, undef, undef] ∧ Hp sb s F0 s' [Ck.ol OI 3 A25 c25 u24.1, Ck.ol OS139 139 A28 c28 u27, Ck.ol OI 3 A31 c31 u30, Ck.ol OI 3 A34 c34 u33, Ck.ol OI 3 A37 c37 u36.1]) ?_ ?_
    ·intro K49 hK49
     refine HT_region ?_
     refine HL_cons rfl ?_
     refine o_move ?_
     try dsimp only [putL, setL, evL, getL]
     refine HL_cons rfl ?_
     refine o_move ?_
     try dsimp only [putL, setL, evL, getL]
     replace H := headE H
     obtain ⟨u53, hu53, H⟩ := H
     refine HL_cons rfl ?_
     refine o_call (args := #[.slice A37 u36.1.length c37, .slice A25 u24.1.length c25]) Try.func63 rfl rfl rfl (laws_eqIntS.ok s36 s36 no A37 c37 u36.1 A25 c25 u24.1 (hH.rd 7 rfl) (hH.rd 3 rfl) (Hp.own (Bs.refl s36)) _ hu53) ?_
     rintro _ s53 ⟨rfl, hD⟩
     replace hH := hH.back0T hD
     clear hD
     dsimp only [addC, setC, rmC, selC, getC] at hH
     try dsimp only [putL, setL, evL, getL]
     refine HL_cons rfl ?_
     refine o_not rfl ?_
     try dsimp only [putL, setL, evL, getL]
     refine HL_cons rfl ?_
     refine o_move ?_
     try dsimp only [putL, setL, evL, getL]
     rcases Bool.eq_false_or_eq_true (!u53) with hb54 | hb54
     ·replace H := iteT hb54 H
      refine HL_skip ?_ ?_
      ·exact wantF (j := 4) (b := false) (t := 58) (c := !u53) rfl rfl rfl rfl hb54
      try dsimp only [putL, setL, evL, getL]
      refine HL_skip ?_ ?_
      ·exact wantF (j := 4) (b := false) (t := 58) (c := !u53) rfl rfl rfl rfl hb54
      try dsimp only [putL, setL, evL, getL]
      refine HL_skip ?_ ?_
      ·exact wantF (j := 4) (b := false) (t := 58) (c := !u53) rfl rfl rfl rfl hb54
      try dsimp only [putL, setL, evL, getL]
      refine HL_cons rfl ?_
      refine o_pickT rfl hb54 ?_
      try dsimp only [putL, setL, evL, getL]
      refine HL_nil ?_
      exact hK49 _ _ ⟨true, H, rfl, hH.sel [3, 4, 5, 6, 7] (by decide)⟩
     ·replace H := iteF hb54 H
      refine HL_want ?_ ?_
      ·exact wantT (j := 4) (b := false) (t := 58) (c := !u53) rfl rfl rfl rfl hb54
      refine o_move ?_
      try dsimp only [putL, setL, evL, getL]
      refine HL_want ?_ ?_
      ·exact wantT (j := 4) (b := false) (t := 58) (c := !u53) rfl rfl rfl rfl hb54
      refine o_move ?_
      try dsimp only [putL, setL, evL, getL]
      refine HL_want ?_ ?_
      ·exact wantT (j := 4) (b := false) (t := 58) (c := !u53) rfl rfl rfl rfl hb54
      refine o_neb rfl rfl Try.underlying4 ?_
      try dsimp only [putL, setL, evL, getL]
      refine HL_cons rfl ?_
      refine o_pickF rfl hb54 ?_
      try dsimp only [putL, setL, evL, getL]
      refine HL_nil ?_
      exact hK49 _ _ ⟨u36.2 != u24.2, H, rfl, hH.sel [3, 4, 5, 6, 7] (by decide)⟩
    ·rintro l' s55 ⟨x52, H, hl, hH⟩
     generalize getL l' 54 = j54, getL l' 55 = j55, getL l' 56 = j56, getL l' 57 = j57, getL l' 58 = j58, getL l' 59 = j59, getL l' 60 = j60, getL l' 61 = j61 at hl
     subst hl
     replace H := hG49 _ H
     try dsimp only at H
     rcases Bool.eq_false_or_eq_true x52 with hb56 | hb56
     ·replace H := iteT hb56 H
      refine HT_true (congrArg Value.bool hb56) ?_
      refine HT_seq_k ?_
      intro K57 hK57
      refine HT_region ?_
      refine HL_cons rfl ?_
      refine o_assign ?_
      try dsimp only [putL, setL, evL, getL]
      refine HL_nil ?_
      refine hK57 _ _ ?_
      refine HT_ret ?_
      exact hQr _ _ [.bool false] ⟨rfl, trivial⟩ (retH (fun r => laws_FnExactReplaceIn.post sb s F0 r _ _) (show some _ = some r from H) ⟨rfl, hH.sel [] (by decide)⟩)
     ·replace H := iteF hb56 H
      refine HT_false (congrArg Value.bool hb56) ?_
      refine HT_skip ?_
      refine hK48 _ _ ?_
      refine HT_seq_k ?_
      intro K58 hK58
      refine HT_seq_k ?_
      intro K59 hK59
      refine HT_region ?_
      refine HL_cons rfl ?_
      refine o_move ?_
      try dsimp only [putL, setL, evL, getL]
      refine HL_cons rfl ?_
      refine o_move ?_
      try dsimp only [putL, setL, evL, getL]
      replace H := headE H
      obtain ⟨u60, hu60, H⟩ := H
      refine HL_cons rfl ?_
      refine o_call (args := #[.slice A0p p0.length c0p]) Try.func40 rfl rfl rfl (laws_toReS.ok sb s55 no A0p c0p p0 HRp0 (Hp.own hH.bs) _ hu60) ?_
      rintro _ s60 ⟨A61, c61, rfl, hD⟩
      replace hH := hH.back0 hD (Up.refl _ _ _)
      clear hD
      dsimp only [addC, setC, rmC, selC, getC] at hH
      try dsimp only [putL, setL, evL, getL]
      replace H := headE H
      obtain ⟨u62, hu62, H⟩ := H
      refine HL_cons rfl ?_
      refine o_call (args := #[.slice A28 u27.length c28, .slice A61 u60.length c61]) Try.func44 rfl rfl rfl (laws_eqReS.ok s60 s60 no A28 c28 u27 A61 c61 u60 (hH.rd 1 rfl) (hH.rd 5 rfl) (Hp.own (Bs.refl s60)) _ hu62) ?_
      rintro _ s62 ⟨rfl, hD⟩
      replace hH := hH.back0T hD
      clear hD
      dsimp only [addC, setC, rmC, selC, getC] at hH
      try dsimp only [putL, setL, evL, getL]
      refine HL_cons rfl ?_
      refine o_not rfl ?_
      try dsimp only [putL, setL, evL, getL]
      refine HL_nil ?_
      refine hK59 _ _ ?_
      rcases Bool.eq_false_or_eq_true (!u62) with hb63 | hb63
      ·replace H := iteT hb63 H
       refine HT_true (congrArg Value.bool hb63) ?_
       refine HT_seq_k ?_
       intro K64 hK64
       refine HT_region ?_
       refine HL_cons rfl ?_
       refine o_assign ?_
       try dsimp only [putL, setL, evL, getL]
       refine HL_nil ?_
       refine hK64 _ _ ?_
       refine HT_ret ?_
       exact hQr _ _ [.bool false] ⟨rfl, trivial⟩ (retH (fun r => laws_FnExactReplaceIn.post sb s F0 r _ _) (show some _ = some r from H) ⟨rfl, hH.sel [] (by decide)⟩)
      ·replace H := iteF hb63 H
       refine HT_false (congrArg Value.bool hb63) ?_
       refine HT_skip ?_
       refine hK58 _ _ ?_
       refine HT_seq_k ?_
       intro K65 hK65
       refine HT_seq_k ?_
       intro K66 hK66
       refine HT_region ?_
       refine HL_cons rfl ?_
       refine o_move ?_
       try dsimp only [putL, setL, evL, getL]
       refine HL_cons rfl ?_
       refine o_move ?_
       try dsimp only [putL, setL, evL, getL]
       replace H := headE H
       obtain ⟨u67, hu67, H⟩ := H
       refine HL_cons rfl ?_
       refine o_call (args := #[.slice A1p p1.length c1p]) Try.func61 rfl rfl rfl (laws_toIntS.ok sb s62 no A1p c1p p1 HRp1 (Hp.own hH.bs) _ hu67) ?_
       rintro _ s67 ⟨A68, c68, rfl, hD⟩
       replace hH := hH.back0 hD (Up.refl _ _ _)
       clear hD
       dsimp only [addC, setC, rmC, selC, getC] at hH
       try dsimp only [putL, setL, evL, getL]
       replace H := headE H
       obtain ⟨u69, hu69, H⟩ := H
       refine HL_cons rfl ?_
       refine o_call (args := #[.slice A31 u30.length c31, .slice A68 u67.length c68]) Try.func63 rfl rfl rfl (laws_eqIntS.ok s67 s67 no A31 c31 u30 A68 c68 u67 (hH.rd 2 rfl) (hH.rd 6 rfl) (Hp.own (Bs.refl s67)) _ hu69) ?_
       rintro _ s69 ⟨rfl, hD⟩
       replace hH := hH.back0T hD
       clear hD
       dsimp only [addC, setC, rmC, selC, getC] at hH
       try dsimp only [putL, setL, evL, getL]
       refine HL_cons rfl ?_
       refine o_not rfl ?_
       try dsimp only [putL, setL, evL, getL]
       refine HL_nil ?_
       refine hK66 _ _ ?_
       rcases Bool.eq_false_or_eq_true (!u69) with hb70 | hb70
       ·replace H := iteT hb70 H
        refine HT_true (congrArg Value.bool hb70) ?_
        refine HT_seq_k ?_
        intro K71 hK71
        refine HT_region ?_
        refine HL_cons rfl ?_
        refine o_assign ?_
        try dsimp only [putL, setL, evL, getL]
        refine HL_nil ?_
        refine hK71 _ _ ?_
        refine HT_ret ?_
        exact hQr _ _ [.bool false] ⟨rfl, trivial⟩ (retH (fun r => laws_FnExactReplaceIn.post sb s F0 r _ _) (show some _ = some r from H) ⟨rfl, hH.sel [] (by decide)⟩)
       ·replace H := iteF hb70 H
        refine HT_false (congrArg Value.bool hb70) ?_
        refine HT_skip ?_
        refine hK65 _ _ ?_
        refine HT_seq_k ?_
        intro K72 hK72
        refine HT_seq_k ?_
        intro K73 hK73
        refine HT_region ?_
        refine HL_cons rfl ?_
        refine o_move ?_
        try dsimp only [putL, setL, evL, getL]
        refine HL_cons rfl ?_
        refine o_move ?_
        try dsimp only [putL, setL, evL, getL]
        replace H := headE H
        obtain ⟨u74, hu74, H⟩ := H
        refine HL_cons rfl ?_
        refine o_call (args := #[.slice A2p p2.length c2p]) Try.func61 rfl rfl rfl (laws_toIntS.ok sb s69 no A2p c2p p2 HRp2 (Hp.own hH.bs) _ hu74) ?_
        rintro _ s74 ⟨A75, c75, rfl, hD⟩
        replace hH := hH.back0 hD (Up.refl _ _ _)
        clear hD
        dsimp only [addC, setC, rmC, selC, getC] at hH
        try dsimp only [putL, setL, evL, getL]
        replace H := headE H
        obtain ⟨u76, hu76, H⟩ := H
        refine HL_cons rfl ?_
        refine o_call (args := #[.slice A34 u33.length c34, .slice A75 u74.length c75]) Try.func63 rfl rfl rfl (laws_eqIntS.ok s74 s74 no A34 c34 u33 A75 c75 u74 (hH.rd 3 rfl) (hH.rd 7 rfl) (Hp.own (Bs.refl s74)) _ hu76) ?_
        rintro _ s76 ⟨rfl, hD⟩
        replace hH := hH.back0T hD
        clear hD
        dsimp only [addC, setC, rmC, selC, getC] at hH
        try dsimp only [putL, setL, evL, getL]
        refine HL_cons rfl ?_
        refine o_not rfl ?_
        try dsimp only [putL, setL, evL, getL]
        refine HL_nil ?_
        refine hK73 _ _ ?_
        rcases Bool.eq_false_or_eq_true (!u76) with hb77 | hb77
        ·replace H := iteT hb77 H
         refine HT_true (congrArg Value.bool hb77) ?_
         refine HT_seq_k ?_
         intro K78 hK78
         refine HT_region ?_
         refine HL_cons rfl ?_
         refine o_assign ?_
         try dsimp only [putL, setL, evL, getL]
         refine HL_nil ?_
         refine hK78 _ _ ?_
         refine HT_ret ?_
         exact hQr _ _ [.bool false] ⟨rfl, trivial⟩ (retH (fun r => laws_FnExactReplaceIn.post sb s F0 r _ _) (show some _ = some r from H) ⟨rfl, hH.sel [] (by decide)⟩)
        ·replace H := iteF hb77 H
         refine HT_false (congrArg Value.bool hb77) ?_
         refine HT_skip ?_
         refine hK72 _ _ ?_
         refine HT_seq_k ?_
         intro K79 hK79
         refine HT_region ?_
         refine HL_cons rfl ?_
         refine o_assign ?_
         try dsimp only [putL, setL, evL, getL]
         refine HL_nil ?_
         refine hK79 _ _ ?_
         refine HT_seq_k ?_
         intro K80 hK80
         refine HT_region ?_
         refine HL_cons rfl ?_
         refine o_move ?_
         try dsimp only [putL, setL, evL, getL]
         refine HL_cons rfl ?_
         refine o_move ?_
         try dsimp only [putL, setL, evL, getL]
         replace H := headE H
         obtain ⟨u81, hu81, H⟩ := H
         obtain ⟨F1, hA, hB⟩ := hH.take [1] (by decide)
         dsimp only [addC, setC, rmC, selC, getC] at hA
         refine HL_cons rfl ?_
         refine o_call (args := #[.slice A28 u27.length c28, .int .i64 1]) Try.func45 rfl rfl rfl (laws_markReS.ok sb s76 F1 A28 c28 u27 1 hA _ hu81) ?_
         rintro _ s81 ⟨rfl, hD, hl82⟩
         replace hH := hB _ _ _ (Up.refl _ _ _) hD
         clear hD hA hB
         dsimp only [addC, setC, rmC, selC, getC] at hH
         try dsimp only [putL, setL, evL, getL]
         refine HL_cons rfl ?_
         refine o_assign ?_
         try dsimp only [putL, setL, evL, getL]
         refine HL_nil ?_
         refine hK80 _ _ ?_
         refine HT_seq_k ?_
         intro K83 hK83
         refine HT_region ?_
         refine HL_cons rfl ?_
         refine o_move ?_
         try dsimp only [putL, setL, evL, getL]
         refine HL_cons rfl ?_
         refine o_move ?_
         try dsimp only [putL, setL, evL, getL]
         replace H := headE H
         obtain ⟨u84, hu84, H⟩ := H
         obtain ⟨F1, hA, hB⟩ := hH.take [2] (by decide)
         dsimp only [addC, setC, rmC, selC, getC] at hA
         refine HL_cons rfl ?_
         refine o_call (args := #[.slice A31 u30.length c31, .int .i64 u81.1]) Try.func89 rfl rfl rfl (laws_markIntS.ok sb s81 F1 A31 c31 u30 u81.1 hA _ hu84) ?_
         rintro _ s84 ⟨rfl, hD, hl85⟩
         replace hH := hB _ _ _ (Up.refl _ _ _) hD
         clear hD hA hB
         dsimp only [addC, setC, rmC, selC, getC] at hH
         try dsimp only [putL, setL, evL, getL]
         refine HL_cons rfl ?_
         refine o_assign ?_
         try dsimp only [putL, setL, evL, getL]
         refine HL_nil ?_
         refine hK83 _ _ ?_
         refine HT_seq_k ?_
         intro K86 hK86
         refine HT_region ?_
         refine HL_cons rfl ?_
         refine o_move ?_
         try dsimp only [putL, setL, evL, getL]
         refine HL_cons rfl ?_
         refine o_move ?_
         try dsimp only [putL, setL, evL, getL]
         replace H := headE H
         obtain ⟨u87, hu87, H⟩ := H
         obtain ⟨F1, hA, hB⟩ := hH.take [3] (by decide)
         dsimp only [addC, setC, rmC, selC, getC] at hA
         refine HL_cons rfl ?_
         refine o_call (args := #[.slice A34 u33.length c34, .int .i64 u84.1]) Try.func89 rfl rfl rfl (laws_markIntS.ok sb s84 F1 A34 c34 u33 u84.1 hA _ hu87) ?_
         rintro _ s87 ⟨rfl, hD, hl88⟩
         replace hH := hB _ _ _ (Up.refl _ _ _) hD
         clear hD hA hB
         dsimp only [addC, setC, rmC, selC, getC] at hH
         try dsimp only [putL, setL, evL, getL]
         refine HL_cons rfl ?_
         refine o_assign ?_
         try dsimp only [putL, setL, evL, getL]
         refine HL_nil ?_
         refine hK86 _ _ ?_
         refine HT_seq_k ?_
         intro K101 hK101
         refine joinH H fun G102 hG102 H => ?_
         refine HT_joinK (fun l' s' => ∃ (x106 : Bool), G102 x106 = some r ∧ l' = [.slice A0p p0.length c0p, .slice A1p p1.length c1p, .slice A2p p2.length c2p, undef, undef, undef, .bool false, .int .i64 u12, .slice A25 u24.1.length c25, .bool u24.2, .slice A28 u27.length c28, .slice A31 u30.length c31, .slice A34 u33.length c34, .slice A37 u36.1.length c37, .bool u36.2, .int .i64 u87.1, undef, undef, undef, undef, .slice A1p p1.length c1p, .int .i64 (p1.length : Int), .bool (decide ((p1.length : Int) > 1048576)), .slice A2p p2.length c2p, .int .i64 (p2.length : Int), .bool (decide ((p2.length : Int) > 1048576)), .slice A0p p0.length c0p, .int .i64 1048576, .int .i64 u12, .int .i64 u12, .bool (decide (u12 < 0)), .tuple #[.slice A25 u24.1.length c25, .bool u24.2], .slice A0p p0.length c0p, .slice A19 u18.length c19, .slice A1p p1.length c1p, .slice A21 u20.length c21, .slice A2p p2.length c2p, .slice A23 u22.length c23, .tuple #[.slice A25 u24.1.length c25, .bool u24.2], .slice A25 u24.1.length c25, .bool u24.2, .slice A0p p0.length c0p, .slice A28 u27.length c28, .slice A1p p1.length c1p, .slice A31 u30.length c31, .slice A2p p2.length c2p, .slice A34 u33.length c34, .tuple #[.slice A37 u36.1.length c37, .bool u36.2], .slice A28 u27.length c28, .slice A31 u30.length c31, .slice A34 u33.length c34, .tuple #[.slice A37 u36.1.length c37, .bool u36.2], .slice A37 u36.1.length c37, .bool u36.2, j54, j55, j56, j57, j58, j59, j60, j61, .bool x52, .slice A28 u27.length c28, .slice A0p p0.length c0p, .slice A61 u60.length c61, .bool u62, .bool (!u62), .slice A31 u30.length c31, .slice A1p p1.length c1p, .slice A68 u67.length c68, .bool u69, .bool (!u69), .slice A34 u33.length c34, .slice A2p p2.length c2p, .slice A75 u74.length c75, .bool u76, .bool (!u76), .slice A28 u27.length c28, .int .i64 1, .int .i64 u81.1, .slice A31 u30.length c31, .int .i64 u81.1, .int .i64 u84.1, .slice A34 u33.length c34, .int .i64 u84.1, .int .i64 u87.1, getL l' 87, getL l' 88, getL l' 89, getL l' 90, getL l' 91, getL l' 92, getL l' 93, getL l' 94, getL l' 95, getL l' 96, getL l' 97, getL l' 98, .bool x106, undef, undef, undef, undef, undef, undef, undef, undef, undef, undef, undef, undef, undef, undef, undef, undef, undef, undef, undef, undef, undef, undef, undef, undef, undef, undef, undef, undef, undef, undef, undef, undef, undef, undef, undef, undef, undef, undef] ∧ Hp sb s F0 s' [Ck.ol OI 3 A25 c25 u24.1, Ck.ol OI 3 A37 c37 u36.1]) ?_ ?_
         ·intro K102 hK102
          refine HT_region ?_
          refine HL_cons rfl ?_
          refine o_move ?_
          try dsimp only [putL, setL, evL, getL]
          refine HL_cons rfl ?_
          refine o_bin rfl rfl rfl ?_
          try dsimp only [putL, setL, evL, getL]
          refine HL_cons rfl ?_
          refine o_move ?_
          try dsimp only [putL, setL, evL, getL]
          rcases Bool.eq_false_or_eq_true (decide (u87.1 < 0)) with hb107 | hb107
          ·replace H := iteT hb107 H
           refine HL_skip ?_ ?_
           ·exact wantF (j := 2) (b := false) (t := 89) (c := decide (u87.1 < 0)) rfl rfl rfl rfl hb107
           try dsimp only [putL, setL, evL, getL]
           refine HL_skip ?_ ?_
           ·exact wantF (j := 2) (b := false) (t := 89) (c := decide (u87.1 < 0)) rfl rfl rfl rfl hb107
           try dsimp only [putL, setL, evL, getL]
           refine HL_skip ?_ ?_
           ·exact wantF (j := 2) (b := false) (t := 89) (c := decide (u87.1 < 0)) rfl rfl rfl rfl hb107
           try dsimp only [putL, setL, evL, getL]
           refine HL_skip ?_ ?_
           ·exact wantF (j := 2) (b := false) (t := 89) (c := decide (u87.1 < 0)) rfl rfl rfl rfl hb107
           try dsimp only [putL, setL, evL, getL]
           refine HL_cons rfl ?_
           refine o_pickT rfl hb107 ?_
           try dsimp only [putL, setL, evL, getL]
           refine HL_cons rfl ?_
           refine o_move ?_
           try dsimp only [putL, setL, evL, getL]
           refine HL_skip ?_ ?_
           ·exact wantF (j := 8) (b := false) (t := 95) (c := true) rfl rfl rfl rfl rfl
           try dsimp only [putL, setL, evL, getL]
           refine HL_skip ?_ ?_
           ·exact wantF (j := 8) (b := false) (t := 95) (c := true) rfl rfl rfl rfl rfl
           try dsimp only [putL, setL, evL, getL]
           refine HL_skip ?_ ?_
           ·exact wantF (j := 8) (b := false) (t := 95) (c := true) rfl rfl rfl rfl rfl
           try dsimp only [putL, setL, evL, getL]
           refine HL_cons rfl ?_
           refine o_pickT rfl rfl ?_
           try dsimp only [putL, setL, evL, getL]
           refine HL_nil ?_
           exact hK102 _ _ ⟨true, H, rfl, hH.sel [0, 4] (by decide)⟩
          ·replace H := iteF hb107 H
           refine HL_want ?_ ?_
           ·exact wantT (j := 2) (b := false) (t := 89) (c := decide (u87.1 < 0)) rfl rfl rfl rfl hb107
           refine o_move ?_
           try dsimp only [putL, setL, evL, getL]
           refine HL_want ?_ ?_
           ·exact wantT (j := 2) (b := false) (t := 89) (c := decide (u87.1 < 0)) rfl rfl rfl rfl hb107
           refine o_move ?_
           try dsimp only [putL, setL, evL, getL]
           replace H := headE H
           obtain ⟨u108, hu108, H⟩ := H
           refine HL_want ?_ ?_
           ·exact wantT (j := 2) (b := false) (t := 89) (c := decide (u87.1 < 0)) rfl rfl rfl rfl hb107
           refine o_call (args := #[.slice A37 u36.1.length c37, .slice A25 u24.1.length c25]) Try.func63 rfl rfl rfl (laws_eqIntS.ok s87 s87 no A37 c37 u36.1 A25 c25 u24.1 (hH.rd 4 rfl) (hH.rd 0 rfl) (Hp.own (Bs.refl s87)) _ hu108) ?_
           rintro _ s108 ⟨rfl, hD⟩
           replace hH := hH.back0T hD
           clear hD
           dsimp only [addC, setC, rmC, selC, getC] at hH
           try dsimp only [putL, setL, evL, getL]
           refine HL_want ?_ ?_
           ·exact wantT (j := 2) (b := false) (t := 89) (c := decide (u87.1 < 0)) rfl rfl rfl rfl hb107
           refine o_not rfl ?_
           try dsimp only [putL, setL, evL, getL]
           refine HL_cons rfl ?_
           refine o_pickF rfl hb107 ?_
           try dsimp only [putL, setL, evL, getL]
           refine HL_cons rfl ?_
           refine o_move ?_
           try dsimp only [putL, setL, evL, getL]
           rcases Bool.eq_false_or_eq_true (!u108) with hb109 | hb109
           ·replace H := iteT hb109 H
            refine HL_skip ?_ ?_
            ·exact wantF (j := 8) (b := false) (t := 95) (c := !u108) rfl rfl rfl rfl hb109
            try dsimp only [putL, setL, evL, getL]
            refine HL_skip ?_ ?_
            ·exact wantF (j := 8) (b := false) (t := 95) (c := !u108) rfl rfl rfl rfl hb109
            try dsimp only [putL, setL, evL, getL]
            refine HL_skip ?_ ?_
            ·exact wantF (j := 8) (b := false) (t := 95) (c := !u108) rfl rfl rfl rfl hb109
            try dsimp only [putL, setL, evL, getL]
            refine HL_cons rfl ?_
            refine o_pickT rfl hb109 ?_
            try dsimp only [putL, setL, evL, getL]
            refine HL_nil ?_
            exact hK102 _ _ ⟨true, H, rfl, hH.sel [0, 4] (by decide)⟩
           ·replace H := iteF hb109 H
            refine HL_want ?_ ?_
            ·exact wantT (j := 8) (b := false) (t := 95) (c := !u108) rfl rfl rfl rfl hb109
            refine o_move ?_
            try dsimp only [putL, setL, evL, getL]
            refine HL_want ?_ ?_
            ·exact wantT (j := 8) (b := false) (t := 95) (c := !u108) rfl rfl rfl rfl hb109
            refine o_move ?_
            try dsimp only [putL, setL, evL, getL]
            refine HL_want ?_ ?_
            ·exact wantT (j := 8) (b := false) (t := 95) (c := !u108) rfl rfl rfl rfl hb109
            refine o_neb rfl rfl Try.underlying4 ?_
            try dsimp only [putL, setL, evL, getL]
            refine HL_cons rfl ?_
            refine o_pickF rfl hb109 ?_
            try dsimp only [putL, setL, evL, getL]
            refine HL_nil ?_
            exact hK102 _ _ ⟨u36.2 != u24.2, H, rfl, hH.sel [0, 4] (by decide)⟩
         ·rintro l' s110 ⟨x106, H, hl, hH⟩
          generalize getL l' 87 = j87, getL l' 88 = j88, getL l' 89 = j89, getL l' 90 = j90, getL l' 91 = j91, getL l' 92 = j92, getL l' 93 = j93, getL l' 94 = j94, getL l' 95 = j95, getL l' 96 = j96, getL l' 97 = j97, getL l' 98 = j98 at hl
          subst hl
          replace H := hG102 _ H
          try dsimp only at H
          rcases Bool.eq_false_or_eq_true x106 with hb111 | hb111
          ·replace H := iteT hb111 H
           refine HT_true (congrArg Value.bool hb111) ?_
           refine HT_seq_k ?_
           intro K112 hK112
           refine HT_region ?_
           refine HL_cons rfl ?_
           refine o_assign ?_
           try dsimp only [putL, setL, evL, getL]
           refine HL_nil ?_
           refine hK112 _ _ ?_
           refine HT_ret ?_
           exact hQr _ _ [.bool false] ⟨rfl, trivial⟩ (retH (fun r => laws_FnExactReplaceIn.post sb s F0 r _ _) (show some _ = some r from H) ⟨rfl, hH.sel [] (by decide)⟩)
          ·replace H := iteF hb111 H
           refine HT_false (congrArg Value.bool hb111) ?_
           refine HT_skip ?_
           refine hK101 _ _ ?_
           refine HT_seq_k ?_
           intro K113 hK113
           refine HT_region ?_
           refine HL_cons rfl ?_
           refine o_assign ?_
           try dsimp only [putL, setL, evL, getL]
           refine HL_nil ?_
           refine hK113 _ _ ?_
           refine HT_seq_k ?_
           intro K114 hK114
           refine HT_region ?_
           refine HL_cons rfl ?_
           refine o_move ?_
           try dsimp only [putL, setL, evL, getL]
           refine HL_cons rfl ?_
           refine o_move ?_
           try dsimp only [putL, setL, evL, getL]
           replace H := headE H
           obtain ⟨u115, hu115, H⟩ := H
           obtain ⟨F1, hA, hB⟩ := hH.take [1] (by decide)
           dsimp only [addC, setC, rmC, selC, getC] at hA
           refine HL_cons rfl ?_
           refine o_call (args := #[.slice A37 u36.1.length c37, .int .i64 1]) Try.func89 rfl rfl rfl (laws_markIntS.ok sb s110 F1 A37 c37 u36.1 1 hA _ hu115) ?_
           rintro _ s115 ⟨rfl, hD, hl116⟩
           replace hH := hB _ _ _ (Up.refl _ _ _) hD
           clear hD hA hB
           dsimp only [addC, setC, rmC, selC, getC] at hH
           try dsimp only [putL, setL, evL, getL]
           refine HL_cons rfl ?_
           refine o_assign ?_
           try dsimp only [putL, setL, evL, getL]
           refine HL_nil ?_
           refine hK114 _ _ ?_
           refine HT_seq_k ?_
           intro K117 hK117
           refine HT_region ?_
           refine HL_cons rfl ?_
           refine o_assign ?_
           try dsimp only [putL, setL, evL, getL]
           refine HL_nil ?_
           refine hK117 _ _ ?_
           refine HT_seq_k ?_
           intro K118 hK118
           refine HT_region ?_
           refine HL_cons rfl ?_
           refine o_move ?_
           try dsimp only [putL, setL, evL, getL]
           refine HL_cons rfl ?_
           refine o_move ?_
           try dsimp only [putL, setL, evL, getL]
           replace H := headE H
           obtain ⟨u119, hu119, H⟩ := H
           refine HL_cons rfl ?_
           refine o_call (args := #[.slice A37 u115.2.length c37, .int .i64 1]) Try.func90 rfl rfl (by show ([.slice A37 u36.1.length c37, .int .i64 1] : List Value) = [.slice A37 u115.2.length c37, .int .i64 1]; rw [hl116]; first | done | rfl) (laws_heldIntS.ok s115 s115 no A37 c37 u115.2 1 (hH.rd 2 rfl) (Hp.own (Bs.refl s115)) _ hu119) ?_
           rintro _ s119 ⟨rfl, hD⟩
           replace hH := hH.back0T hD
           clear hD
           dsimp only [addC, setC, rmC, selC, getC] at hH
           try dsimp only [putL, setL, evL, getL]
           refine HL_cons rfl ?_
           refine o_assign ?_
           try dsimp only [putL, setL, evL, getL]
           refine HL_nil ?_
           refine hK118 _ _ ?_
           refine HT_seq_k ?_
           intro K120 hK120
           refine HT_seq_k ?_
           intro K121 hK121
           refine HT_region ?_
           refine HL_cons rfl ?_
           refine o_move ?_
           try dsimp only [putL, setL, evL, getL]
           refine HL_cons rfl ?_
           refine o_bin rfl rfl rfl ?_
           try dsimp only [putL, setL, evL, getL]
           refine HL_nil ?_
           refine hK121 _ _ ?_
           rcases Bool.eq_false_or_eq_true (decide (u119 < 0)) with hb122 | hb122
           ·replace H := iteT hb122 H
            refine HT_true (congrArg Value.bool hb122) ?_
            refine HT_seq_k ?_
            intro K123 hK123
            refine HT_region ?_
            refine HL_cons rfl ?_
            refine o_assign ?_
            try dsimp only [putL, setL, evL, getL]
            refine HL_nil ?_
            refine hK123 _ _ ?_
            refine HT_ret ?_
            exact hQr _ _ [.bool false] ⟨rfl, trivial⟩ (retH (fun r => laws_FnExactReplaceIn.post sb s F0 r _ _) (show some _ = some r from H) ⟨rfl, hH.sel [] (by decide)⟩)
           ·replace H := iteF hb122 H
            refine HT_false (congrArg Value.bool hb122) ?_
            refine HT_skip ?_
            refine hK120 _ _ ?_
            refine HT_seq_k ?_
            intro K124 hK124
            refine HT_seq_k ?_
            intro K125 hK125
            refine HT_region ?_
            refine HL_cons rfl ?_
            refine o_move ?_
            try dsimp only [putL, setL, evL, getL]
            refine HL_cons rfl ?_
            refine o_move ?_
            try dsimp only [putL, setL, evL, getL]
            refine HL_cons rfl ?_
            refine o_bin rfl rfl rfl ?_
            try dsimp only [putL, setL, evL, getL]
            refine HL_nil ?_
            refine hK125 _ _ ?_
            rcases Bool.eq_false_or_eq_true (u119 != u115.1) with hb126 | hb126
            ·replace H := iteT hb126 H
             refine HT_true (congrArg Value.bool hb126) ?_
             refine HT_seq_k ?_
             intro K127 hK127
             refine HT_region ?_
             refine HL_cons rfl ?_
             refine o_assign ?_
             try dsimp only [putL, setL, evL, getL]
             refine HL_nil ?_
             refine hK127 _ _ ?_
             refine HT_ret ?_
             exact hQr _ _ [.bool false] ⟨rfl, trivial⟩ (retH (fun r => laws_FnExactReplaceIn.post sb s F0 r _ _) (show some _ = some r from H) ⟨rfl, hH.sel [] (by decide)⟩)
            ·replace H := iteF hb126 H
             refine HT_false (congrArg Value.bool hb126) ?_
             refine HT_skip ?_
             refine hK124 _ _ ?_
             refine HT_seq_k ?_
             intro K128 hK128
             refine HT_region ?_
             refine HL_cons rfl ?_
             refine o_move ?_
             try dsimp only [putL, setL, evL, getL]
             replace H := headE H
             obtain ⟨u129, hu129, H⟩ := H
             refine HL_cons rfl ?_
             refine o_call (args := #[.slice A0p p0.length c0p]) Try.func40 rfl rfl rfl (laws_toReS.ok sb s119 no A0p c0p p0 HRp0 (Hp.own hH.bs) _ hu129) ?_
             rintro _ s129 ⟨A130, c130, rfl, hD⟩
             replace hH := hH.back0 hD (Up.refl _ _ _)
             clear hD
             dsimp only [addC, setC, rmC, selC, getC] at hH
             try dsimp only [putL, setL, evL, getL]
             refine HL_cons rfl ?_
             refine o_move ?_
             try dsimp only [putL, setL, evL, getL]
             replace H := headE H
             obtain ⟨u131, hu131, H⟩ := H
             refine HL_cons rfl ?_
             refine o_call (args := #[.slice A1p p1.length c1p]) Try.func61 rfl rfl rfl (laws_toIntS.ok sb s129 no A1p c1p p1 HRp1 (Hp.own hH.bs) _ hu131) ?_
             rintro _ s131 ⟨A132, c132, rfl, hD⟩
             replace hH := hH.back0 hD (Up.refl _ _ _)
             clear hD
             dsimp only [addC, setC, rmC, selC, getC] at hH
             try dsimp only [putL, setL, evL, getL]
             refine HL_cons rfl ?_
             refine o_move ?_
             try dsimp only [putL, setL, evL, getL]
             replace H := headE H
             obtain ⟨u133, hu133, H⟩ := H
             refine HL_cons rfl ?_
             refine o_call (args := #[.slice A2p p2.length c2p]) Try.func61 rfl rfl rfl (laws_toIntS.ok sb s131 no A2p c2p p2 HRp2 (Hp.own hH.bs) _ hu133) ?_
             rintro _ s133 ⟨A134, c134, rfl, hD⟩
             replace hH := hH.back0 hD (Up.refl _ _ _)
             clear hD
             dsimp only [addC, setC, rmC, selC, getC] at hH
             try dsimp only [putL, setL, evL, getL]
             replace H := headE H
             obtain ⟨u135, hu135, H⟩ := H
             refine HL_cons rfl ?_
             refine o_call (args := #[.slice A130 u129.length c130, .slice A132 u131.length c132, .slice A134 u133.length c134]) Try.func88 rfl rfl rfl (impl_ReplaceIn.ok s133 s133 no A130 c130 u129 A132 c132 u131 A134 c134 u133 (hH.rd 3 rfl) (hH.rd 4 rfl) (hH.rd 5 rfl) (Hp.own (Bs.refl s133)) _ hu135) ?_
             rintro _ s135 ⟨A136, c136, rfl, hD⟩
             replace hH := hH.back0T hD
             clear hD
             dsimp only [addC, setC, rmC, selC, getC] at hH
             try dsimp only [putL, setL, evL, getL]
             refine HL_cons rfl ?_
             refine o_move ?_
             try dsimp only [putL, setL, evL, getL]
             refine HL_cons rfl ?_
             refine o_extract rfl rfl ?_
             try dsimp only [putL, setL, evL, getL]
             refine HL_cons rfl ?_
             refine o_extract rfl rfl ?_
             try dsimp only [putL, setL, evL, getL]
             refine HL_cons rfl ?_
             refine o_assign ?_
             try dsimp only [putL, setL, evL, getL]
             refine HL_cons rfl ?_
             refine o_assign ?_
             try dsimp only [putL, setL, evL, getL]
             refine HL_nil ?_
             refine hK128 _ _ ?_
             refine HT_seq_k ?_
             intro K147 hK147
             refine joinH H fun G148 hG148 H => ?_
             refine HT_joinK (fun l' s' => ∃ (x151 : Bool), G148 x151 = some r ∧ l' = [.slice A0p p0.length c0p, .slice A1p p1.length c1p, .slice A2p p2.length c2p, undef, undef, undef, .bool false, .int .i64 u12, .slice A25 u24.1.length c25, .bool u24.2, .slice A28 u27.length c28, .slice A31 u30.length c31, .slice A34 u33.length c34, .slice A37 u36.1.length c37, .bool u36.2, .int .i64 u87.1, .int .i64 u115.1, .int .i64 u119, .slice A136 u135.1.length c136, .bool u135.2, .slice A1p p1.length c1p, .int .i64 (p1.length : Int), .bool (decide ((p1.length : Int) > 1048576)), .slice A2p p2.length c2p, .int .i64 (p2.length : Int), .bool (decide ((p2.length : Int) > 1048576)), .slice A0p p0.length c0p, .int .i64 1048576, .int .i64 u12, .int .i64 u12, .bool (decide (u12 < 0)), .tuple #[.slice A25 u24.1.length c25, .bool u24.2], .slice A0p p0.length c0p, .slice A19 u18.length c19, .slice A1p p1.length c1p, .slice A21 u20.length c21, .slice A2p p2.length c2p, .slice A23 u22.length c23, .tuple #[.slice A25 u24.1.length c25, .bool u24.2], .slice A25 u24.1.length c25, .bool u24.2, .slice A0p p0.length c0p, .slice A28 u27.length c28, .slice A1p p1.length c1p, .slice A31 u30.length c31, .slice A2p p2.length c2p, .slice A34 u33.length c34, .tuple #[.slice A37 u36.1.length c37, .bool u36.2], .slice A28 u27.length c28, .slice A31 u30.length c31, .slice A34 u33.length c34, .tuple #[.slice A37 u36.1.length c37, .bool u36.2], .slice A37 u36.1.length c37, .bool u36.2, j54, j55, j56, j57, j58, j59, j60, j61, .bool x52, .slice A28 u27.length c28, .slice A0p p0.length c0p, .slice A61 u60.length c61, .bool u62, .bool (!u62), .slice A31 u30.length c31, .slice A1p p1.length c1p, .slice A68 u67.length c68, .bool u69, .bool (!u69), .slice A34 u33.length c34, .slice A2p p2.length c2p, .slice A75 u74.length c75, .bool u76, .bool (!u76), .slice A28 u27.length c28, .int .i64 1, .int .i64 u81.1, .slice A31 u30.length c31, .int .i64 u81.1, .int .i64 u84.1, .slice A34 u33.length c34, .int .i64 u84.1, .int .i64 u87.1, j87, j88, j89, j90, j91, j92, j93, j94, j95, j96, j97, j98, .bool x106, .slice A37 u36.1.length c37, .int .i64 1, .int .i64 u115.1, .slice A37 u36.1.length c37, .int .i64 1, .int .i64 u119, .int .i64 u119, .bool (decide (u119 < 0)), .int .i64 u119, .int .i64 u115.1, .bool (u119 != u115.1), .tuple #[.slice A136 u135.1.length c136, .bool u135.2], .slice A0p p0.length c0p, .slice A130 u129.length c130, .slice A1p p1.length c1p, .slice A132 u131.length c132, .slice A2p p2.length c2p, .slice A134 u133.length c134, .tuple #[.slice A136 u135.1.length c136, .bool u135.2], .slice A136 u135.1.length c136, .bool u135.2, getL l' 121, getL l' 122, getL l' 123, getL l' 124, getL l' 125, getL l' 126, getL l' 127, getL l' 128, .bool x151, undef, undef, undef, undef, undef, undef, undef, undef] ∧ Hp sb s F0 s' [Ck.ol OI 3 A37 c37 u115.2]) ?_ ?_
             ·intro K148 hK148
              refine HT_region ?_
              refine HL_cons rfl ?_
              refine o_move ?_
              try dsimp only [putL, setL, evL, getL]
              refine HL_cons rfl ?_
              refine o_move ?_
              try dsimp only [putL, setL, evL, getL]
              replace H := headE H
              obtain ⟨u152, hu152, H⟩ := H
              refine HL_cons rfl ?_
              refine o_call (args := #[.slice A136 u135.1.length c136, .slice A25 u24.1.length c25]) Try.func63 rfl rfl rfl (laws_eqIntS.ok s135 s135 no A136 c136 u135.1 A25 c25 u24.1 (hH.rd 6 rfl) (hH.rd 0 rfl) (Hp.own (Bs.refl s135)) _ hu152) ?_
              rintro _ s152 ⟨rfl, hD⟩
              replace hH := hH.back0T hD
              clear hD
              dsimp only [addC, setC, rmC, selC, getC] at hH
              try dsimp only [putL, setL, evL, getL]
              refine HL_cons rfl ?_
              refine o_not rfl ?_
              try dsimp only [putL, setL, evL, getL]
              refine HL_cons rfl ?_
              refine o_move ?_
              try dsimp only [putL, setL, evL, getL]
              rcases Bool.eq_false_or_eq_true (!u152) with hb153 | hb153
              ·replace H := iteT hb153 H
               refine HL_skip ?_ ?_
               ·exact wantF (j := 4) (b := false) (t := 125) (c := !u152) rfl rfl rfl rfl hb153
               try dsimp only [putL, setL, evL, getL]
               refine HL_skip ?_ ?_
               ·exact wantF (j := 4) (b := false) (t := 125) (c := !u152) rfl rfl rfl rfl hb153
               try dsimp only [putL, setL, evL, getL]
               refine HL_skip ?_ ?_
               ·exact wantF (j := 4) (b := false) (t := 125) (c := !u152) rfl rfl rfl rfl hb153
               try dsimp only [putL, setL, evL, getL]
               refine HL_cons rfl ?_
               refine o_pickT rfl hb153 ?_
               try dsimp only [putL, setL, evL, getL]
               refine HL_nil ?_
               exact hK148 _ _ ⟨true, H, rfl, hH.sel [2] (by decide)⟩
              ·replace H := iteF hb153 H
               refine HL_want ?_ ?_
               ·exact wantT (j := 4) (b := false) (t := 125) (c := !u152) rfl rfl rfl rfl hb153
               refine o_move ?_
               try dsimp only [putL, setL, evL, getL]
               refine HL_want ?_ ?_
               ·exact wantT (j := 4) (b := false) (t := 125) (c := !u152) rfl rfl rfl rfl hb153
               refine o_move ?_
               try dsimp only [putL, setL, evL, getL]
               refine HL_want ?_ ?_
               ·exact wantT (j := 4) (b := false) (t := 125) (c := !u152) rfl rfl rfl rfl hb153
               refine o_neb rfl rfl Try.underlying4 ?_
               try dsimp only [putL, setL, evL, getL]
               refine HL_cons rfl ?_
               refine o_pickF rfl hb153 ?_
               try dsimp only [putL, setL, evL, getL]
               refine HL_nil ?_
               exact hK148 _ _ ⟨u135.2 != u24.2, H, rfl, hH.sel [2] (by decide)⟩
             ·rintro l' s154 ⟨x151, H, hl, hH⟩
              generalize getL l' 121 = j121, getL l' 122 = j122, getL l' 123 = j123, getL l' 124 = j124, getL l' 125 = j125, getL l' 126 = j126, getL l' 127 = j127, getL l' 128 = j128 at hl
              subst hl
              replace H := hG148 _ H
              try dsimp only at H
              rcases Bool.eq_false_or_eq_true x151 with hb155 | hb155
              ·replace H := iteT hb155 H
               refine HT_true (congrArg Value.bool hb155) ?_
               refine HT_seq_k ?_
               intro K156 hK156
               refine HT_region ?_
               refine HL_cons rfl ?_
               refine o_assign ?_
               try dsimp only [putL, setL, evL, getL]
               refine HL_nil ?_
               refine hK156 _ _ ?_
               refine HT_ret ?_
               exact hQr _ _ [.bool false] ⟨rfl, trivial⟩ (retH (fun r => laws_FnExactReplaceIn.post sb s F0 r _ _) (show some _ = some r from H) ⟨rfl, hH.sel [] (by decide)⟩)
              ·replace H := iteF hb155 H
               refine HT_false (congrArg Value.bool hb155) ?_
               refine HT_skip ?_
               refine hK147 _ _ ?_
               refine HT_seq_k ?_
               intro K157 hK157
               refine HT_region ?_
               refine HL_cons rfl ?_
               refine o_assign ?_
               try dsimp only [putL, setL, evL, getL]
               refine HL_nil ?_
               refine hK157 _ _ ?_
               refine HT_seq_k ?_
               intro K158 hK158
               refine HT_region ?_
               refine HL_cons rfl ?_
               refine o_move ?_
               try dsimp only [putL, setL, evL, getL]
               refine HL_cons rfl ?_
               refine o_move ?_
               try dsimp only [putL, setL, evL, getL]
               replace H := headE H
               obtain ⟨u159, hu159, H⟩ := H
               refine HL_cons rfl ?_
               refine o_call (args := #[.slice A37 u115.2.length c37, .int .i64 1]) Try.func90 rfl rfl (by show ([.slice A37 u36.1.length c37, .int .i64 1] : List Value) = [.slice A37 u115.2.length c37, .int .i64 1]; rw [hl116]; first | done | rfl) (laws_heldIntS.ok s154 s154 no A37 c37 u115.2 1 (hH.rd 0 rfl) (Hp.own (Bs.refl s154)) _ hu159) ?_
               rintro _ s159 ⟨rfl, hD⟩
               replace hH := hH.back0T hD
               clear hD
               dsimp only [addC, setC, rmC, selC, getC] at hH
               try dsimp only [putL, setL, evL, getL]
               refine HL_cons rfl ?_
               refine o_assign ?_
               try dsimp only [putL, setL, evL, getL]
               refine HL_nil ?_
               refine hK158 _ _ ?_
               refine HT_seq_k ?_
               intro K160 hK160
               refine HT_seq_k ?_
               intro K161 hK161
               refine HT_region ?_
               refine HL_cons rfl ?_
               refine o_move ?_
               try dsimp only [putL, setL, evL, getL]
               refine HL_cons rfl ?_
               refine o_bin rfl rfl rfl ?_
               try dsimp only [putL, setL, evL, getL]
               refine HL_nil ?_
               refine hK161 _ _ ?_
               rcases Bool.eq_false_or_eq_true (decide (u159 < 0)) with hb162 | hb162
               ·replace H := iteT hb162 H
                refine HT_true (congrArg Value.bool hb162) ?_
                refine HT_seq_k ?_
                intro K163 hK163
                refine HT_region ?_
                refine HL_cons rfl ?_
                refine o_assign ?_
                try dsimp only [putL, setL, evL, getL]
                refine HL_nil ?_
                refine hK163 _ _ ?_
                refine HT_ret ?_
                exact hQr _ _ [.bool false] ⟨rfl, trivial⟩ (retH (fun r => laws_FnExactReplaceIn.post sb s F0 r _ _) (show some _ = some r from H) ⟨rfl, hH.sel [] (by decide)⟩)
               ·replace H := iteF hb162 H
                refine HT_false (congrArg Value.bool hb162) ?_
                refine HT_skip ?_
                refine hK160 _ _ ?_
                refine HT_seq_k ?_
                intro K164 hK164
                refine HT_seq_k ?_
                intro K165 hK165
                refine HT_region ?_
                refine HL_cons rfl ?_
                refine o_move ?_
                try dsimp only [putL, setL, evL, getL]
                refine HL_cons rfl ?_
                refine o_move ?_
                try dsimp only [putL, setL, evL, getL]
                refine HL_cons rfl ?_
                refine o_bin rfl rfl rfl ?_
                try dsimp only [putL, setL, evL, getL]
                refine HL_nil ?_
                refine hK165 _ _ ?_
                rcases Bool.eq_false_or_eq_true (u159 != u115.1) with hb166 | hb166
                ·replace H := iteT hb166 H
                 refine HT_true (congrArg Value.bool hb166) ?_
                 refine HT_seq_k ?_
                 intro K167 hK167
                 refine HT_region ?_
                 refine HL_cons rfl ?_
                 refine o_assign ?_
                 try dsimp only [putL, setL, evL, getL]
                 refine HL_nil ?_
                 refine hK167 _ _ ?_
                 refine HT_ret ?_
                 exact hQr _ _ [.bool false] ⟨rfl, trivial⟩ (retH (fun r => laws_FnExactReplaceIn.post sb s F0 r _ _) (show some _ = some r from H) ⟨rfl, hH.sel [] (by decide)⟩)
                ·replace H := iteF hb166 H
                 refine HT_false (congrArg Value.bool hb166) ?_
                 refine HT_skip ?_
                 refine hK164 _ _ ?_
                 refine HT_seq_k ?_
                 intro K168 hK168
                 refine HT_region ?_
                 refine HL_cons rfl ?_
                 refine o_assign ?_
                 try dsimp only [putL, setL, evL, getL]
                 refine HL_nil ?_
                 refine hK168 _ _ ?_
                 refine HT_ret ?_
                 exact hQr _ _ [.bool true] ⟨rfl, trivial⟩ (retH (fun r => laws_FnExactReplaceIn.post sb s F0 r _ _) (show some _ = some r from H) ⟨rfl, hH.sel [] (by decide)⟩)
end Go.Proofs.Ytkieinlcpkpcjaa
