/- The functions that the law reaches, as plain functions, each with its contract: printed by a program of the prover's. No conditions: lemmas. -/
import Derived.Test.YtkieinlcpkpcjaaWCountParses1
set_option linter.unusedVariables false
set_option linter.unusedSimpArgs false
namespace Go.Proofs.Ytkieinlcpkpcjaa
open Go Go.Proofs.GL
def slices_Clone_int_int.f (p0 : List (Int)) : Option (List (Int)) := app? 17592186044416 [] p0
def slices_Clone_int_int.post (sb s : St) (F0 : Fp) (r : List (Int)) : Value → St → Prop := fun v s' => ∃ (A0 : Option Addr) (c0 : Nat), v = .slice A0 r.length c0 ∧ Hp sb s F0 s' [Ck.ol OI 3 A0 c0 r]
set_option maxRecDepth 100000 in
set_option maxHeartbeats 4000000 in
theorem slices_Clone_int_int.ok (sb s : St) (F0 : Fp) (A0p : Option Addr) (c0p : Nat) (p0 : List (Int)) (HRp0 : Rd KI sb A0p c0p p0) (hH : Hp sb s F0 s []) (r : List (Int)) (H : slices_Clone_int_int.f p0 = some r) : GCall Try.prog 141 #[.slice A0p p0.length c0p] s (slices_Clone_int_int.post sb s F0 r) := by
 refine GCall_ofk [.tmp 2] [.slice A0p p0.length c0p, undef, undef, undef, undef, undef, undef, undef] Try.func141 rfl rfl rfl ?_
 intro w Q hQr hQn hQp
 unfold slices_Clone_int_int.f at H
 refine HT_seq_k ?_
 intro K1 hK1
 refine HT_region ?_
 refine HL_cons rfl ?_
 refine o_assign ?_
 refine HL_nil ?_
 refine hK1 _ _ ?_
 refine HT_seq_k ?_
 intro K2 hK2
 refine HT_seq_k ?_
 intro K3 hK3
 refine HT_region ?_
 refine HL_cons rfl ?_
 refine o_move ?_
 dsimp only [putL, setL, evL, getL]
 refine HL_cons rfl ?_
 refine o_eqN rfl rfl Try.underlying24 ?_
 dsimp only [putL, setL, evL, getL]
 refine HL_nil ?_
 refine hK3 _ _ ?_
 cases A0p with
 | none =>
  have hp : p0 = [] := by
   by_cases h : p0 = []
   ·exact h
   ·obtain ⟨b, o, hA, _⟩ := HRp0.2.2 h
    cases hA
  subst hp
  obtain ⟨_, rfl⟩ := app?_some H
  refine HT_true rfl ?_
  refine HT_seq_k ?_
  intro K4 hK4
  refine HT_region ?_
  refine HL_cons rfl ?_
  refine o_assign ?_
  dsimp only [putL, setL, evL, getL]
  refine HL_nil ?_
  refine hK4 _ _ ?_
  refine HT_ret ?_
  exact hQr _ _ [.slice none 0 0] ⟨rfl, trivial⟩ ⟨none, 0, rfl, hH.nil (K := KI) OI 3⟩
 | some a =>
  refine HT_false rfl ?_
  refine HT_skip ?_
  refine hK2 _ _ ?_
  refine HT_seq_k ?_
  intro K4 hK4
  refine HT_region ?_
  refine HL_cons rfl ?_
  refine o_lit0H (α := Int) (K := KI) (O := OI) hH Try.underlying24 tI3 ?_
  intro A1 s1 hH hG
  dsimp only [putL, setL, evL, getL]
  refine HL_cons rfl ?_
  refine o_move ?_
  dsimp only [putL, setL, evL, getL]
  refine HL_cons rfl ?_
  refine o_appF (n := 17592186044416) (A := A1) (c := 0) (xs := ([] : List (Int))) (ys := p0) (B := some a) (c2 := c0p) hH 0 rfl rfl rfl rfl Try.underlying24 tI3 rfl (by decide) (by decide) (by decide) (Src.flat (HRp0.mono hH.bs.mono)) H ?_
  intro A2 c2 s2 hH
  dsimp only [putL, setL, evL, getL]
  refine HL_cons rfl ?_
  refine o_assign ?_
  dsimp only [putL, setL, evL, getL]
  refine HL_nil ?_
  refine hK4 _ _ ?_
  refine HT_ret ?_
  exact hQr _ _ [.slice A2 r.length c2] ⟨rfl, trivial⟩ ⟨A2, c2, rfl, hH⟩
def impl_parts.l1 (p0 : List ((Int) × (List (Int)))) : Nat → (List (List (Int))) → (List (Int)) → Int → Option (Lo ((List (List (Int))) × (List (Int))) ((List (List (Int))) × Bool))
 | 0, _, _, _ => none
 | kf + 1, x301, x302, x303 => if (decide (x303 < (p0.length : Int))) = true then ((rd? p0 x303).bind fun u418 => (impl_partsOf.f u418.1).bind fun u423 => (if (decide (u423 < 0)) = true then (some true) else (some (decide (u423 > (x302.length : Int))))).bind fun (o : Bool) => match o with | x435 => (if x435 = true then ((some ([], false)).bind fun z => some (Lo.ret z)) else ((cut? x302 (IntKind.i64.wrap ((x302.length : Int) - u423)) (x302.length : Int)).bind fun x441 => (slices_Clone_int_int.f x441).bind fun u442 => (app? 5864062014805 x301 [u442]).bind fun x445 => (cut? x302 0 (IntKind.i64.wrap ((x302.length : Int) - u423))).bind fun x446 => (app? 17592186044416 x446 [x303]).bind fun x449 => impl_parts.l1 p0 kf x445 x449 (IntKind.i64.wrap (x303 + 1))))) else (some (Lo.go (x301, x302)))
def impl_parts.f (p0 : List ((Int) × (List (Int)))) : Option ((List (List (Int))) × Bool) := (impl_parts.l1 p0 ((((p0.length : Int)) - (0)).toNat + 2) ([] : List (List (Int))) ([] : List (Int)) 0).bind fun (o : Lo ((List (List (Int))) × (List (Int))) ((List (List (Int))) × Bool)) => match o with | .go (x228, x229) => (some (x228, ((x229.length : Int) == 1))) | .ret z => some z
def impl_parts.post (sb s : St) (F0 : Fp) (r : (List (List (Int))) × Bool) : Value → St → Prop := fun v s' => ∃ (A0 : Option Addr) (c0 : Nat), v = .tuple #[.slice A0 r.1.length c0, .bool r.2] ∧ Hp sb s F0 s' [Ck.ol (Ow.sl OI 3) 24 A0 c0 r.1]
set_option maxRecDepth 100000 in
set_option maxHeartbeats 4000000 in
theorem impl_parts.ok (sb s : St) (F0 : Fp) (A0p : Option Addr) (c0p : Nat) (p0 : List ((Int) × (List (Int)))) (HRp0 : Rd KS139 sb A0p c0p p0) (hH : Hp sb s F0 s []) (r : (List (List (Int))) × Bool) (H : impl_parts.f p0 = some r) : GCall Try.prog 155 #[.slice A0p p0.length c0p] s (impl_parts.post sb s F0 r) := by
 refine GCall_ofk [.tmp 2, .tmp 3] [.slice A0p p0.length c0p, undef, undef, undef, undef, undef, undef, undef, undef, undef, undef, undef, undef, undef, undef, undef, undef, undef, undef, undef, undef, undef, undef, undef, undef, undef, undef, undef, undef, undef, undef, undef, undef, undef, undef, undef, undef, undef, undef, undef, undef, undef, undef, undef, undef, undef, undef, undef, undef, undef, undef, undef, undef] Try.func155 rfl rfl rfl ?_
 intro w Q hQr hQn hQp
 replace H := topE H
 unfold impl_parts.f at H
 refine HT_seq_k ?_
 intro K1 hK1
 refine HT_region ?_
 refine HL_cons rfl ?_
 refine o_assign ?_
 try dsimp only [putL, setL, evL, getL]
 refine HL_cons rfl ?_
 refine o_assign ?_
 try dsimp only [putL, setL, evL, getL]
 refine HL_nil ?_
 refine hK1 _ _ ?_
 refine HT_seq_k ?_
 intro K2 hK2
 refine HT_region ?_
 refine HL_cons rfl ?_
 refine o_lit0H (α := List (Int)) (K := (Kd.sl KI)) (O := (Ow.sl OI 3)) hH Try.underlying105 tI24 ?_
 intro A3 s3 hH' hG
 replace hH : Hp sb s F0 s3 [Ck.ol (Ow.sl OI 3) 24 A3 0 ([] : List (List (Int)))] := hH'
 clear hH' hG
 try dsimp only [putL, setL, evL, getL]
 refine HL_cons rfl ?_
 refine o_lit0H (α := Int) (K := KI) (O := OI) hH Try.underlying24 tI3 ?_
 intro A4 s4 hH' hG
 replace hH : Hp sb s F0 s4 [Ck.ol (Ow.sl OI 3) 24 A3 0 ([] : List (List (Int))), Ck.ol OI 3 A4 0 ([] : List (Int))] := hH'
 clear hH' hG
 try dsimp only [putL, setL, evL, getL]
 refine HL_cons rfl ?_
 refine o_assign ?_
 try dsimp only [putL, setL, evL, getL]
 refine HL_cons rfl ?_
 refine o_assign ?_
 try dsimp only [putL, setL, evL, getL]
 refine HL_nil ?_
 refine hK2 _ _ ?_
 refine HT_seq_k ?_
 intro K5 hK5
 refine HT_seq_k ?_
 intro K6 hK6
 refine HT_region ?_
 refine HL_cons rfl ?_
 refine o_move ?_
 try dsimp only [putL, setL, evL, getL]
 refine HL_cons rfl ?_
 refine o_len rfl Try.underlying57 ?_
 try dsimp only [putL, setL, evL, getL]
 refine HL_cons rfl ?_
 refine o_move ?_
 try dsimp only [putL, setL, evL, getL]
 refine HL_nil ?_
 refine hK6 _ _ ?_
 refine joinH H fun G7 hG7 H => ?_
 refine HT_toK (fun l' s' => ∃ (x228 : List (List (Int))) (A228 : Option Addr) (c228 : Nat) (x229 : List (Int)) (A229 : Option Addr) (c229 : Nat), G7 (.go (x228, x229)) = some r ∧ l' = [.slice A0p p0.length c0p, undef, getL l' 2, getL l' 3, .slice A228 x228.length c228, .slice A229 x229.length c229, getL l' 6, getL l' 7, getL l' 8, .slice A3 ([] : List (List (Int))).length 0, .slice A4 ([] : List (Int)).length 0, .slice A0p p0.length c0p, .int .i64 (p0.length : Int), getL l' 13, getL l' 14, getL l' 15, getL l' 16, getL l' 17, getL l' 18, getL l' 19, getL l' 20, getL l' 21, getL l' 22, getL l' 23, getL l' 24, getL l' 25, getL l' 26, getL l' 27, getL l' 28, getL l' 29, getL l' 30, getL l' 31, getL l' 32, getL l' 33, getL l' 34, getL l' 35, getL l' 36, getL l' 37, getL l' 38, getL l' 39, getL l' 40, getL l' 41, getL l' 42, getL l' 43, getL l' 44, getL l' 45, getL l' 46, getL l' 47, getL l' 48, undef, undef, undef, undef] ∧ Hp sb s F0 s' [Ck.ol (Ow.sl OI 3) 24 A228 c228 x228, Ck.ol OI 3 A229 c229 x229]) ?_ ?_
 ·intro K7 hK7
  refine HT_block ?_
  refine HT_loopK (fun kf l' s' => ∃ (x301 : List (List (Int))) (A301 : Option Addr) (c301 : Nat) (x302 : List (Int)) (A302 : Option Addr) (c302 : Nat) (x303 : Int), (impl_parts.l1 p0 kf x301 x302 x303).bind G7 = some r ∧ l' = [.slice A0p p0.length c0p, undef, getL l' 2, getL l' 3, .slice A301 x301.length c301, .slice A302 x302.length c302, getL l' 6, getL l' 7, getL l' 8, .slice A3 ([] : List (List (Int))).length 0, .slice A4 ([] : List (Int)).length 0, .slice A0p p0.length c0p, .int .i64 (p0.length : Int), .int .i64 x303, getL l' 14, getL l' 15, getL l' 16, getL l' 17, getL l' 18, getL l' 19, getL l' 20, getL l' 21, getL l' 22, getL l' 23, getL l' 24, getL l' 25, getL l' 26, getL l' 27, getL l' 28, getL l' 29, getL l' 30, getL l' 31, getL l' 32, getL l' 33, getL l' 34, getL l' 35, getL l' 36, getL l' 37, getL l' 38, getL l' 39, getL l' 40, getL l' 41, getL l' 42, getL l' 43, getL l' 44, getL l' 45, getL l' 46, getL l' 47, getL l' 48, undef, undef, undef, undef] ∧ Hp sb s F0 s' [Ck.ol (Ow.sl OI 3) 24 A301 c301 x301, Ck.ol OI 3 A302 c302 x302]) ((((p0.length : Int)) - (0)).toNat + 2) ⟨([] : List (List (Int))), A3, 0, ([] : List (Int)), A4, 0, 0, H, rfl, hH⟩ ?_
  rintro kf l' s378 ⟨x301, A301, c301, x302, A302, c302, x303, H, hl, hH⟩ K378 hK378
  generalize getL l' 2 = j2, getL l' 3 = j3, getL l' 6 = j6, getL l' 7 = j7, getL l' 8 = j8, getL l' 14 = j14, getL l' 15 = j15, getL l' 16 = j16, getL l' 17 = j17, getL l' 18 = j18, getL l' 19 = j19, getL l' 20 = j20, getL l' 21 = j21, getL l' 22 = j22, getL l' 23 = j23, getL l' 24 = j24, getL l' 25 = j25, getL l' 26 = j26, getL l' 27 = j27, getL l' 28 = j28, getL l' 29 = j29, getL l' 30 = j30, getL l' 31 = j31, getL l' 32 = j32, getL l' 33 = j33, getL l' 34 = j34, getL l' 35 = j35, getL l' 36 = j36, getL l' 37 = j37, getL l' 38 = j38, getL l' 39 = j39, getL l' 40 = j40, getL l' 41 = j41, getL l' 42 = j42, getL l' 43 = j43, getL l' 44 = j44, getL l' 45 = j45, getL l' 46 = j46, getL l' 47 = j47, getL l' 48 = j48 at hl
  subst hl
  cases kf with
  | zero => simp [impl_parts.l1] at H
  | succ kf =>
   rw [impl_parts.l1] at H
   refine HT_seq_k ?_
   intro K379 hK379
   refine HT_region ?_
   refine HL_cons rfl ?_
   refine o_bin rfl rfl rfl ?_
   try dsimp only [putL, setL, evL, getL]
   refine HL_nil ?_
   refine hK379 _ _ ?_
   refine HT_seq_k ?_
   intro K380 hK380
   rcases Bool.eq_false_or_eq_true (decide (x303 < (p0.length : Int))) with hb381 | hb381
   ·replace H := iteT hb381 H
    refine HT_true (congrArg Value.bool hb381) ?_
    refine HT_skip ?_
    refine hK380 _ _ ?_
    refine HT_seq_k ?_
    intro K416 hK416
    refine HT_block ?_
    refine HT_seq_k ?_
    intro K417 hK417
    refine HT_region ?_
    refine HL_cons rfl ?_
    refine o_move ?_
    try dsimp only [putL, setL, evL, getL]
    replace H := headE H
    obtain ⟨u418, hu418, H⟩ := H
    obtain ⟨b418, o418, cs418, hr418, hh418, hel418⟩ := Rd.elb HRp0 hu418
    obtain ⟨_, _, rfl, rfl, ⟨A419, c419, rfl, D419⟩⟩ := hr418
    refine HL_cons rfl ?_
    refine hel418 s378 rfl rfl Try.underlying57 tI139 ?_
    try dsimp only [putL, setL, evL, getL]
    refine HL_cons rfl ?_
    refine o_loads' [.int .i64 u418.1, .slice A419 u418.2.length c419] rfl Try.underlying139 rfl tI139 rfl (fun j v hj => (hh418 hH.bs.mono) j v hj) ?_
    try dsimp only [putL, setL, evL, getL]
    refine HL_cons rfl ?_
    refine o_allocH hH tI139 ?_
    intro b420 s420 hH' hG
    replace hH : Hp sb s F0 s420 [Ck.ol (Ow.sl OI 3) 24 A301 c301 x301, Ck.ol OI 3 A302 c302 x302, Ck.ov b420 [.int .i64 0, .slice none 0 0] 139] := hH'
    clear hH' hG
    try dsimp only [putL, setL, evL, getL]
    refine HL_cons rfl ?_
    refine o_assign ?_
    try dsimp only [putL, setL, evL, getL]
    refine HL_cons rfl ?_
    refine o_stvH (vs := [.int .i64 u418.1, .slice A419 u418.2.length c419]) (us' := [.int .i64 u418.1, .slice A419 u418.2.length c419]) hH 2 rfl rfl rfl rfl rfl tI139 rfl (List.cons_ne_nil _ _) rfl rfl rfl ?_
    intro s421 hH'
    replace hH : Hp sb s F0 s421 [Ck.ol (Ow.sl OI 3) 24 A301 c301 x301, Ck.ol OI 3 A302 c302 x302, Ck.ov b420 [.int .i64 u418.1, .slice A419 u418.2.length c419] 139] := hH'
    clear hH'
    try dsimp only [putL, setL, evL, getL]
    refine HL_nil ?_
    refine hK417 _ _ ?_
    refine HT_seq_k ?_
    intro K422 hK422
    refine HT_region ?_
    refine HL_cons rfl ?_
    refine o_faddr' (ft := 3) (off := 0) rfl Try.underlying139 rfl tI3 (by decide) ?_
    try dsimp only [putL, setL, evL, getL]
    refine HL_cons rfl ?_
    refine o_load' rfl Try.underlying3 rfl (hH.hasv 2 rfl rfl) ?_
    try dsimp only [putL, setL, evL, getL]
    replace H := headE H
    obtain ⟨u423, hu423, H⟩ := H
    refine HL_cons rfl ?_
    refine o_call (args := #[.int .i64 u418.1]) Try.func203 rfl rfl rfl (impl_partsOf.ok sb s421 no u418.1 (Hp.own hH.bs) _ hu423) ?_
    rintro _ s423 ⟨rfl, hD⟩
    replace hH := hH.back0 hD (Up.refl _ _ _)
    clear hD
    dsimp only [addC, setC, rmC, selC, getC] at hH
    try dsimp only [putL, setL, evL, getL]
    refine HL_cons rfl ?_
    refine o_assign ?_
    try dsimp only [putL, setL, evL, getL]
    refine HL_nil ?_
    refine hK422 _ _ ?_
    refine HT_seq_k ?_
    intro K432 hK432
    refine joinH H fun G433 hG433 H => ?_
    refine HT_joinK (fun l' s' => ∃ (x435 : Bool), G433 x435 = some r ∧ l' = [.slice A0p p0.length c0p, undef, j2, j3, .slice A301 x301.length c301, .slice A302 x302.length c302, .int .i64 x303, .pointer (some ⟨b420, 0, none⟩), .int .i64 u423, .slice A3 ([] : List (List (Int))).length 0, .slice A4 ([] : List (Int)).length 0, .slice A0p p0.length c0p, .int .i64 (p0.length : Int), .int .i64 x303, .bool (decide (x303 < (p0.length : Int))), .int .i64 x303, .pointer (some ⟨b418, o418, none⟩), .agg #[.int .i64 u418.1, .slice A419 u418.2.length c419], .pointer (some ⟨b420, 0 + 0, none⟩), .int .i64 u418.1, .int .i64 u423, getL l' 21, getL l' 22, getL l' 23, getL l' 24, getL l' 25, getL l' 26, getL l' 27, .bool x435, j29, j30, j31, j32, j33, j34, j35, j36, j37, j38, j39, j40, j41, j42, j43, j44, j45, j46, j47, j48, undef, undef, undef, undef] ∧ Hp sb s F0 s' [Ck.ol (Ow.sl OI 3) 24 A301 c301 x301, Ck.ol OI 3 A302 c302 x302]) ?_ ?_
    ·intro K433 hK433
     refine HT_region ?_
     refine HL_cons rfl ?_
     refine o_move ?_
     try dsimp only [putL, setL, evL, getL]
     refine HL_cons rfl ?_
     refine o_bin rfl rfl rfl ?_
     try dsimp only [putL, setL, evL, getL]
     refine HL_cons rfl ?_
     refine o_move ?_
     try dsimp only [putL, setL, evL, getL]
     rcases Bool.eq_false_or_eq_true (decide (u423 < 0)) with hb436 | hb436
     ·replace H := iteT hb436 H
      refine HL_skip ?_ ?_
      ·exact wantF (j := 2) (b := false) (t := 23) (c := decide (u423 < 0)) rfl rfl rfl rfl hb436
      try dsimp only [putL, setL, evL, getL]
      refine HL_skip ?_ ?_
      ·exact wantF (j := 2) (b := false) (t := 23) (c := decide (u423 < 0)) rfl rfl rfl rfl hb436
      try dsimp only [putL, setL, evL, getL]
      refine HL_skip ?_ ?_
      ·exact wantF (j := 2) (b := false) (t := 23) (c := decide (u423 < 0)) rfl rfl rfl rfl hb436
      try dsimp only [putL, setL, evL, getL]
      refine HL_skip ?_ ?_
      ·exact wantF (j := 2) (b := false) (t := 23) (c := decide (u423 < 0)) rfl rfl rfl rfl hb436
      try dsimp only [putL, setL, evL, getL]
      refine HL_cons rfl ?_
      refine o_pickT rfl hb436 ?_
      try dsimp only [putL, setL, evL, getL]
      refine HL_nil ?_
      exact hK433 _ _ ⟨true, H, rfl, hH.sel [0, 1] (by decide)⟩
     ·replace H := iteF hb436 H
      refine HL_want ?_ ?_
      ·exact wantT (j := 2) (b := false) (t := 23) (c := decide (u423 < 0)) rfl rfl rfl rfl hb436
      refine o_move ?_
      try dsimp only [putL, setL, evL, getL]
      refine HL_want ?_ ?_
      ·exact wantT (j := 2) (b := false) (t := 23) (c := decide (u423 < 0)) rfl rfl rfl rfl hb436
      refine o_move ?_
      try dsimp only [putL, setL, evL, getL]
      refine HL_want ?_ ?_
      ·exact wantT (j := 2) (b := false) (t := 23) (c := decide (u423 < 0)) rfl rfl rfl rfl hb436
      refine o_len rfl Try.underlying24 ?_
      try dsimp only [putL, setL, evL, getL]
      refine HL_want ?_ ?_
      ·exact wantT (j := 2) (b := false) (t := 23) (c := decide (u423 < 0)) rfl rfl rfl rfl hb436
      refine o_bin rfl rfl rfl ?_
      try dsimp only [putL, setL, evL, getL]
      refine HL_cons rfl ?_
      refine o_pickF rfl hb436 ?_
      try dsimp only [putL, setL, evL, getL]
      refine HL_nil ?_
      exact hK433 _ _ ⟨decide (u423 > (x302.length : Int)), H, rfl, hH.sel [0, 1] (by decide)⟩
    ·rintro l' s437 ⟨x435, H, hl, hH⟩
     generalize getL l' 21 = j21, getL l' 22 = j22, getL l' 23 = j23, getL l' 24 = j24, getL l' 25 = j25, getL l' 26 = j26, getL l' 27 = j27 at hl
     subst hl
     replace H := hG433 _ H
     try dsimp only at H
     rcases Bool.eq_false_or_eq_true x435 with hb438 | hb438
     ·replace H := iteT hb438 H
      refine HT_true (congrArg Value.bool hb438) ?_
      refine HT_seq_k ?_
      intro K439 hK439
      refine HT_region ?_
      refine HL_cons rfl ?_
      refine o_assign ?_
      try dsimp only [putL, setL, evL, getL]
      refine HL_cons rfl ?_
      refine o_assign ?_
      try dsimp only [putL, setL, evL, getL]
      refine HL_nil ?_
      refine hK439 _ _ ?_
      refine HT_ret ?_
      replace H := escH (fun z hz => hG7 _ hz) H
      exact hQr _ _ [.slice none 0 0, .bool false] ⟨rfl, rfl, trivial⟩ (retH (fun r => impl_parts.post sb s F0 r _ _) (show some _ = some r from H) ⟨none, 0, rfl, (hH.nil (K := (Kd.sl KI)) (Ow.sl OI 3) 24).sel [2] (by decide)⟩)
     ·replace H := iteF hb438 H
      refine HT_false (congrArg Value.bool hb438) ?_
      refine HT_skip ?_
      refine hK432 _ _ ?_
      refine HT_seq_k ?_
      intro K440 hK440
      refine HT_region ?_
      refine HL_cons rfl ?_
      refine o_move ?_
      try dsimp only [putL, setL, evL, getL]
      refine HL_cons rfl ?_
      refine o_move ?_
      try dsimp only [putL, setL, evL, getL]
      refine HL_cons rfl ?_
      refine o_move ?_
      try dsimp only [putL, setL, evL, getL]
      refine HL_cons rfl ?_
      refine o_len rfl Try.underlying24 ?_
      try dsimp only [putL, setL, evL, getL]
      refine HL_cons rfl ?_
      refine o_move ?_
      try dsimp only [putL, setL, evL, getL]
      refine HL_cons rfl ?_
      refine o_bin rfl rfl rfl ?_
      try dsimp only [putL, setL, evL, getL]
      replace H := headE H
      obtain ⟨x441, hx441, H⟩ := H
      refine HL_cons rfl ?_
      refine o_cutA (xs := x302) (kl := .i64) (kh := .i64) (L := IntKind.i64.wrap ((x302.length : Int) - u423)) (H := (x302.length : Int)) rfl rfl rfl Try.underlying24 tI3 (hH.rd 1 rfl).1 hx441 ?_
      have D441 := @Der.cut _ _ OI 3 A302 c302 _ _ _ _ hx441
      try dsimp only [putL, setL, evL, getL]
      replace H := headE H
      obtain ⟨u442, hu442, H⟩ := H
      refine HL_cons rfl ?_
      refine o_call (args := #[.slice (cutA A302 c302 (Int.toNat (IntKind.i64.wrap ((x302.length : Int) - u423))) (Kd.sz KI)) x441.length (c302 - Int.toNat (IntKind.i64.wrap ((x302.length : Int) - u423)))]) Try.func141 rfl rfl rfl (slices_Clone_int_int.ok s437 s437 no (cutA A302 c302 (Int.toNat (IntKind.i64.wrap ((x302.length : Int) - u423))) (Kd.sz KI)) (c302 - Int.toNat (IntKind.i64.wrap ((x302.length : Int) - u423))) x441 (D441 _ _ hH.bs (hH.ckP 1)) (Hp.own (Bs.refl s437)) _ hu442) ?_
      rintro _ s442 ⟨A443, c443, rfl, hD⟩
      replace hH := hH.back0T hD
      clear hD
      dsimp only [addC, setC, rmC, selC, getC] at hH
      try dsimp only [putL, setL, evL, getL]
      replace hH := hH.conv [2] (by decide) (d := Ck.el (Ow.sl OI 3) [.slice A443 u442.length c443] u442) Ent.sl
      dsimp only [addC, setC, rmC, selC, getC] at hH
      refine HL_cons rfl ?_
      refine o_litD (K := (Kd.sl KI)) (O := (Ow.sl OI 3)) (ca := #[.slice A443 u442.length c443]) [[.slice A443 u442.length c443]] [u442] hH [3] (by decide) rfl Try.underlying105 tI24 rfl (by decide) rfl rfl rfl rfl (by kernel_rfl) rfl ?_
      intro A444 s444 hH' hG
      replace hH : Hp sb s F0 s444 [Ck.ol (Ow.sl OI 3) 24 A301 c301 x301, Ck.ol OI 3 A302 c302 x302, Ck.emp, Ck.emp, Ck.ol (Ow.sl OI 3) 24 A444 1 [u442]] := hH'
      clear hH' hG
      try dsimp only [putL, setL, evL, getL]
      replace H := headE H
      obtain ⟨x445, hx445, H⟩ := H
      refine HL_cons rfl ?_
      refine o_appD (K := (Kd.sl KI)) (n := 5864062014805) (A := A301) (c := c301) (xs := x301) (ys := [u442]) (B := A444) (c2 := 1) hH 0 4 (by decide) rfl rfl rfl rfl rfl Try.underlying105 tI24 rfl (by decide) (by decide) (by decide) hx445 ?_
      intro A445 c445 s445 hH'
      replace hH : Hp sb s F0 s445 [Ck.ol (Ow.sl OI 3) 24 A445 c445 x445, Ck.ol OI 3 A302 c302 x302, Ck.emp, Ck.emp, Ck.emp] := hH'
      clear hH'
      try dsimp only [putL, setL, evL, getL]
      refine HL_cons rfl ?_
      refine o_assign ?_
      try dsimp only [putL, setL, evL, getL]
      refine HL_nil ?_
      refine hK440 _ _ ?_
      refine HT_region ?_
      refine HL_cons rfl ?_
      refine o_move ?_
      try dsimp only [putL, setL, evL, getL]
      refine HL_cons rfl ?_
      refine o_move ?_
      try dsimp only [putL, setL, evL, getL]
      refine HL_cons rfl ?_
      refine o_len rfl Try.underlying24 ?_
      try dsimp only [putL, setL, evL, getL]
      refine HL_cons rfl ?_
      refine o_move ?_
      try dsimp only [putL, setL, evL, getL]
      refine HL_cons rfl ?_
      refine o_bin rfl rfl rfl ?_
      try dsimp only [putL, setL, evL, getL]
      replace H := headE H
      obtain ⟨x446, hx446, H⟩ := H
      refine HL_cons rfl ?_
      refine o_cutA (xs := x302) (kl := .i64) (kh := .i64) (L := 0) (H := IntKind.i64.wrap ((x302.length : Int) - u423)) rfl rfl rfl Try.underlying24 tI3 (hH.rd 1 rfl).1 hx446 ?_
      have D446 := @Der.cut _ _ OI 3 A302 c302 _ _ _ _ hx446
      try dsimp only [putL, setL, evL, getL]
      refine HL_cons rfl ?_
      refine o_move ?_
      try dsimp only [putL, setL, evL, getL]
      refine HL_cons rfl ?_
      refine o_litF (K := KI) (O := OI) (ca := #[.int .i64 x303]) [[.int .i64 x303]] [x303] hH Try.underlying24 tI3 rfl (by decide) rfl rfl (by kernel_rfl) rfl ⟨rfl, Ent.own (Ent.flat rfl), trivial⟩ ?_
      intro A447 s447 hH' hG
      replace hH : Hp sb s F0 s447 [Ck.ol (Ow.sl OI 3) 24 A445 c445 x445, Ck.ol OI 3 A302 c302 x302, Ck.emp, Ck.emp, Ck.emp, Ck.ol OI 3 A447 1 [x303]] := hH'
      clear hH' hG
      try dsimp only [putL, setL, evL, getL]
      replace hH := hH.cut 1 rfl rfl hx446
      dsimp only [addC, setC, rmC, selC, getC] at hH
      replace H := headE H
      obtain ⟨x449, hx449, H⟩ := H
      refine HL_cons rfl ?_
      refine o_appF (K := KI) (n := 17592186044416) (A := (cutA A302 c302 (Int.toNat 0) (Kd.sz KI))) (c := c302 - Int.toNat 0) (xs := x446) (ys := [x303]) (B := A447) (c2 := 1) hH 1 rfl rfl rfl rfl Try.underlying24 tI3 rfl (by decide) (by decide) (by decide) (Src.flat (hH.rd 5 rfl)) hx449 ?_
      intro A449 c449 s449 hH'
      replace hH : Hp sb s F0 s449 [Ck.ol (Ow.sl OI 3) 24 A445 c445 x445, Ck.ol OI 3 A449 c449 x449, Ck.emp, Ck.emp, Ck.emp, Ck.ol OI 3 A447 1 [x303]] := hH'
      clear hH'
      try dsimp only [putL, setL, evL, getL]
      refine HL_cons rfl ?_
      refine o_assign ?_
      try dsimp only [putL, setL, evL, getL]
      refine HL_nil ?_
      refine hK416 _ _ ?_
      refine HT_region ?_
      refine HL_cons rfl ?_
      refine o_bin rfl rfl rfl ?_
      try dsimp only [putL, setL, evL, getL]
      refine HL_cons rfl ?_
      refine o_move ?_
      try dsimp only [putL, setL, evL, getL]
      refine HL_nil ?_
      exact hK378 _ _ ⟨kf, Nat.lt_succ_self kf, x445, A445, c445, x449, A449, c449, IntKind.i64.wrap (x303 + 1), H, rfl, hH.sel [0, 1] (by decide)⟩
   ·replace H := iteF hb381 H
    refine HT_false (congrArg Value.bool hb381) ?_
    refine HT_exit ?_
    exact hK7 _ _ ⟨x301, A301, c301, x302, A302, c302, H, rfl, hH⟩
 ·rintro l' s450 ⟨x228, A228, c228, x229, A229, c229, H, hl, hH⟩
  generalize getL l' 2 = j2, getL l' 3 = j3, getL l' 6 = j6, getL l' 7 = j7, getL l' 8 = j8, getL l' 13 = j13, getL l' 14 = j14, getL l' 15 = j15, getL l' 16 = j16, getL l' 17 = j17, getL l' 18 = j18, getL l' 19 = j19, getL l' 20 = j20, getL l' 21 = j21, getL l' 22 = j22, getL l' 23 = j23, getL l' 24 = j24, getL l' 25 = j25, getL l' 26 = j26, getL l' 27 = j27, getL l' 28 = j28, getL l' 29 = j29, getL l' 30 = j30, getL l' 31 = j31, getL l' 32 = j32, getL l' 33 = j33, getL l' 34 = j34, getL l' 35 = j35, getL l' 36 = j36, getL l' 37 = j37, getL l' 38 = j38, getL l' 39 = j39, getL l' 40 = j40, getL l' 41 = j41, getL l' 42 = j42, getL l' 43 = j43, getL l' 44 = j44, getL l' 45 = j45, getL l' 46 = j46, getL l' 47 = j47, getL l' 48 = j48 at hl
  subst hl
  replace H := hG7 _ H
  try dsimp only at H
  refine hK5 _ _ ?_
  refine HT_seq_k ?_
  intro K451 hK451
  refine HT_region ?_
  refine HL_cons rfl ?_
  refine o_move ?_
  try dsimp only [putL, setL, evL, getL]
  refine HL_cons rfl ?_
  refine o_move ?_
  try dsimp only [putL, setL, evL, getL]
  refine HL_cons rfl ?_
  refine o_len rfl Try.underlying24 ?_
  try dsimp only [putL, setL, evL, getL]
  refine HL_cons rfl ?_
  refine o_bin rfl rfl rfl ?_
  try dsimp only [putL, setL, evL, getL]
  refine HL_cons rfl ?_
  refine o_assign ?_
  try dsimp only [putL, setL, evL, getL]
  refine HL_cons rfl ?_
  refine o_assign ?_
  try dsimp only [putL, setL, evL, getL]
  refine HL_nil ?_
  refine hK451 _ _ ?_
  refine HT_ret ?_
  exact hQr _ _ [.slice A228 x228.length c228, .bool ((x229.length : Int) == 1)] ⟨rfl, rfl, trivial⟩ (retH (fun r => impl_parts.post sb s F0 r _ _) (show some _ = some r from H) ⟨A228, c228, rfl, hH.sel [0] (by decide)⟩)
def impl_GoodRe.f (p0 : List ((Int) × (List (Int)))) : Option Bool := ((impl_inRange.f (p0.length : Int) 1 40).bind fun u20 => if (!u20) = true then (some true) else ((slices_ContainsFunc_impl_Re_impl_Re_impl_GoodRe_1.f p0).bind fun u22 => some u22)).bind fun (o : Bool) => match o with | x19 => (if x19 = true then (some false) else ((impl_parts.f p0).bind fun u27 => some u27.2))
def impl_GoodRe.post (sb s : St) (F0 : Fp) (r : Bool) : Value → St → Prop := fun v s' => v = .bool r ∧ Hp sb s F0 s' []
set_option maxRecDepth 100000 in
set_option maxHeartbeats 4000000 in
theorem impl_GoodRe.ok (sb s : St) (F0 : Fp) (A0p : Option Addr) (c0p : Nat) (p0 : List ((Int) × (List (Int)))) (HRp0 : Rd KS139 sb A0p c0p p0) (hH : Hp sb s F0 s []) (r : Bool) (H : impl_GoodRe.f p0 = some r) : GCall Try.prog 131 #[.slice A0p p0.length c0p] s (impl_GoodRe.post sb s F0 r) := by
 refine GCall_ofk [.tmp 2] [.slice A0p p0.length c0p, undef, undef, undef, undef, undef, undef, undef, undef, undef, undef, undef, undef, undef, undef, undef, undef, undef, undef] Try.func131 rfl rfl rfl ?_
 intro w Q hQr hQn hQp
 replace H := topE H
 unfold impl_GoodRe.f at H
 refine HT_seq_k ?_
 intro K1 hK1
 refine HT_region ?_
 refine HL_cons rfl ?_
 refine o_assign ?_
 try dsimp only [putL, setL, evL, getL]
 refine HL_nil ?_
 refine hK1 _ _ ?_
 refine HT_seq_k ?_
 intro K14 hK14
 refine joinH H fun G15 hG15 H => ?_
 refine HT_joinK (fun l' s' => ∃ (x19 : Bool), G15 x19 = some r ∧ l' = [.slice A0p p0.length c0p, undef, .bool false, undef, undef, getL l' 5, getL l' 6, getL l' 7, getL l' 8, getL l' 9, getL l' 10, getL l' 11, .bool x19, undef, undef, undef, undef, undef, undef] ∧ Hp sb s F0 s' []) ?_ ?_
 ·intro K15 hK15
  refine HT_region ?_
  refine HL_cons rfl ?_
  refine o_move ?_
  try dsimp only [putL, setL, evL, getL]
  refine HL_cons rfl ?_
  refine o_len rfl Try.underlying57 ?_
  try dsimp only [putL, setL, evL, getL]
  replace H := headE H
  obtain ⟨u20, hu20, H⟩ := H
  refine HL_cons rfl ?_
  refine o_call (args := #[.int .i64 (p0.length : Int), .int .i64 1, .int .i64 40]) Try.func105 rfl rfl rfl (impl_inRange.ok sb s no (p0.length : Int) 1 40 (Hp.own hH.bs) _ hu20) ?_
  rintro _ s20 ⟨rfl, hD⟩
  replace hH := hH.back0 hD (Up.refl _ _ _)
  clear hD
  dsimp only [addC, setC, rmC, selC, getC] at hH
  try dsimp only [putL, setL, evL, getL]
  refine HL_cons rfl ?_
  refine o_not rfl ?_
  try dsimp only [putL, setL, evL, getL]
  refine HL_cons rfl ?_
  refine o_move ?_
  try dsimp only [putL, setL, evL, getL]
  rcases Bool.eq_false_or_eq_true (!u20) with hb21 | hb21
  ·replace H := iteT hb21 H
   refine HL_skip ?_ ?_
   ·exact wantF (j := 4) (b := false) (t := 9) (c := !u20) rfl rfl rfl rfl hb21
   try dsimp only [putL, setL, evL, getL]
   refine HL_skip ?_ ?_
   ·exact wantF (j := 4) (b := false) (t := 9) (c := !u20) rfl rfl rfl rfl hb21
   try dsimp only [putL, setL, evL, getL]
   refine HL_cons rfl ?_
   refine o_pickT rfl hb21 ?_
   try dsimp only [putL, setL, evL, getL]
   refine HL_nil ?_
   exact hK15 _ _ ⟨true, H, rfl, hH⟩
  ·replace H := iteF hb21 H
   refine HL_want ?_ ?_
   ·exact wantT (j := 4) (b := false) (t := 9) (c := !u20) rfl rfl rfl rfl hb21
   refine o_move ?_
   try dsimp only [putL, setL, evL, getL]
   replace H := headE H
   obtain ⟨u22, hu22, H⟩ := H
   refine HL_want ?_ ?_
   ·exact wantT (j := 4) (b := false) (t := 9) (c := !u20) rfl rfl rfl rfl hb21
   refine o_call (args := #[.slice A0p p0.length c0p, .func (.func 191) #[] #[]]) Try.func190 rfl rfl rfl (slices_ContainsFunc_impl_Re_impl_Re_impl_GoodRe_1.ok sb s20 no A0p c0p p0 HRp0 (Hp.own hH.bs) _ hu22) ?_
   rintro _ s22 ⟨rfl, hD⟩
   replace hH := hH.back0 hD (Up.refl _ _ _)
   clear hD
   dsimp only [addC, setC, rmC, selC, getC] at hH
   try dsimp only [putL, setL, evL, getL]
   refine HL_cons rfl ?_
   refine o_pickF rfl hb21 ?_
   try dsimp only [putL, setL, evL, getL]
   refine HL_nil ?_
   exact hK15 _ _ ⟨u22, H, rfl, hH⟩
 ·rintro l' s23 ⟨x19, H, hl, hH⟩
  generalize getL l' 5 = j5, getL l' 6 = j6, getL l' 7 = j7, getL l' 8 = j8, getL l' 9 = j9, getL l' 10 = j10, getL l' 11 = j11 at hl
  subst hl
  replace H := hG15 _ H
  try dsimp only at H
  rcases Bool.eq_false_or_eq_true x19 with hb24 | hb24
  ·replace H := iteT hb24 H
   refine HT_true (congrArg Value.bool hb24) ?_
   refine HT_seq_k ?_
   intro K25 hK25
   refine HT_region ?_
   refine HL_cons rfl ?_
   refine o_assign ?_
   try dsimp only [putL, setL, evL, getL]
   refine HL_nil ?_
   refine hK25 _ _ ?_
   refine HT_ret ?_
   exact hQr _ _ [.bool false] ⟨rfl, trivial⟩ (retH (fun r => impl_GoodRe.post sb s F0 r _ _) (show some _ = some r from H) ⟨rfl, hH⟩)
  ·replace H := iteF hb24 H
   refine HT_false (congrArg Value.bool hb24) ?_
   refine HT_skip ?_
   refine hK14 _ _ ?_
   refine HT_seq_k ?_
   intro K26 hK26
   refine HT_region ?_
   refine HL_cons rfl ?_
   refine o_move ?_
   try dsimp only [putL, setL, evL, getL]
   replace H := headE H
   obtain ⟨u27, hu27, H⟩ := H
   refine HL_cons rfl ?_
   refine o_call (args := #[.slice A0p p0.length c0p]) Try.func155 rfl rfl rfl (impl_parts.ok sb s23 no A0p c0p p0 HRp0 (Hp.own hH.bs) _ hu27) ?_
   rintro _ s27 ⟨A28, c28, rfl, hD⟩
   replace hH := hH.back0 hD (Up.refl _ _ _)
   clear hD
   dsimp only [addC, setC, rmC, selC, getC] at hH
   try dsimp only [putL, setL, evL, getL]
   refine HL_cons rfl ?_
   refine o_move ?_
   try dsimp only [putL, setL, evL, getL]
   refine HL_cons rfl ?_
   refine o_extract rfl rfl ?_
   try dsimp only [putL, setL, evL, getL]
   refine HL_cons rfl ?_
   refine o_extract rfl rfl ?_
   try dsimp only [putL, setL, evL, getL]
   refine HL_cons rfl ?_
   refine o_assign ?_
   try dsimp only [putL, setL, evL, getL]
   refine HL_cons rfl ?_
   refine o_assign ?_
   try dsimp only [putL, setL, evL, getL]
   refine HL_nil ?_
   refine hK26 _ _ ?_
   refine HT_seq_k ?_
   intro K29 hK29
   refine HT_region ?_
   refine HL_cons rfl ?_
   refine o_move ?_
   try dsimp only [putL, setL, evL, getL]
   refine HL_cons rfl ?_
   refine o_assign ?_
   try dsimp only [putL, setL, evL, getL]
   refine HL_nil ?_
   refine hK29 _ _ ?_
   refine HT_ret ?_
   exact hQr _ _ [.bool u27.2] ⟨rfl, trivial⟩ (retH (fun r => impl_GoodRe.post sb s F0 r _ _) (show some _ = some r from H) ⟨rfl, hH.sel [] (by decide)⟩)
def impl_isPlain_1.f (p0_0 : Int) (p0_1 : List (Int)) : Option Bool := if (p0_0 == 5) = true then (some true) else (some (p0_0 == 7))
def impl_isPlain_1.post (sb s : St) (F0 : Fp) (r : Bool) : Value → St → Prop := fun v s' => v = .bool r ∧ Hp sb s F0 s' []
set_option maxRecDepth 100000 in
set_option maxHeartbeats 4000000 in
theorem impl_isPlain_1.ok (sb s : St) (F0 : Fp) (p0_0 : Int) (A0_1p : Option Addr) (c0_1p : Nat) (p0_1 : List (Int)) (HRp0_1 : Rd KI sb A0_1p c0_1p p0_1) (hH : Hp sb s F0 s []) (r : Bool) (H : impl_isPlain_1.f p0_0 p0_1 = some r) : GCall Try.prog 194 #[.agg #[.int .i64 p0_0, .slice A0_1p p0_1.length c0_1p]] s (impl_isPlain_1.post sb s F0 r) := by
 refine GCall_ofk [.tmp 2] [.agg #[.int .i64 p0_0, .slice A0_1p p0_1.length c0_1p], undef, undef, undef, undef, undef, undef, undef, undef, undef, undef] Try.func194 rfl rfl rfl ?_
 intro w Q hQr hQn hQp
 replace H := topE H
 unfold impl_isPlain_1.f at H
 refine HT_seq_k ?_
 intro K1 hK1
 refine HT_region ?_
 refine HL_cons rfl ?_
 refine o_boxH hH rfl ?_
 intro b2 s2 hH' hG
 replace hH : Hp sb s F0 s2 [Ck.ov b2 [.int .i64 p0_0, .slice A0_1p p0_1.length c0_1p] 139] := hH'
 clear hH' hG
 try dsimp only [putL, setL, evL, getL]
 refine HL_cons rfl ?_
 refine o_assign ?_
 try dsimp only [putL, setL, evL, getL]
 refine HL_nil ?_
 refine hK1 _ _ ?_
 refine HT_seq_k ?_
 intro K3 hK3
 refine HT_region ?_
 refine HL_cons rfl ?_
 refine o_faddr' (ft := 3) (off := 0) rfl Try.underlying139 rfl tI3 (by decide) ?_
 try dsimp only [putL, setL, evL, getL]
 refine HL_cons rfl ?_
 refine o_load' rfl Try.underlying3 rfl (hH.hasv 0 rfl rfl) ?_
 try dsimp only [putL, setL, evL, getL]
 refine HL_cons rfl ?_
 refine o_bin rfl rfl rfl ?_
 try dsimp only [putL, setL, evL, getL]
 refine HL_cons rfl ?_
 refine o_move ?_
 try dsimp only [putL, setL, evL, getL]
 rcases Bool.eq_false_or_eq_true (p0_0 == 5) with hb4 | hb4
 ·replace H := iteT hb4 H
  refine HL_skip ?_ ?_
  ·exact wantF (j := 3) (b := false) (t := 6) (c := p0_0 == 5) rfl rfl rfl rfl hb4
  try dsimp only [putL, setL, evL, getL]
  refine HL_skip ?_ ?_
  ·exact wantF (j := 3) (b := false) (t := 6) (c := p0_0 == 5) rfl rfl rfl rfl hb4
  try dsimp only [putL, setL, evL, getL]
  refine HL_skip ?_ ?_
  ·exact wantF (j := 3) (b := false) (t := 6) (c := p0_0 == 5) rfl rfl rfl rfl hb4
  try dsimp only [putL, setL, evL, getL]
  refine HL_cons rfl ?_
  refine o_pickT rfl hb4 ?_
  try dsimp only [putL, setL, evL, getL]
  refine HL_cons rfl ?_
  refine o_assign ?_
  try dsimp only [putL, setL, evL, getL]
  refine HL_nil ?_
  refine hK3 _ _ ?_
  refine HT_ret ?_
  exact hQr _ _ [.bool true] ⟨rfl, trivial⟩ (retH (fun r => impl_isPlain_1.post sb s F0 r _ _) (show some _ = some r from H) ⟨rfl, hH.sel [] (by decide)⟩)
 ·replace H := iteF hb4 H
  refine HL_want ?_ ?_
  ·exact wantT (j := 3) (b := false) (t := 6) (c := p0_0 == 5) rfl rfl rfl rfl hb4
  refine o_faddr' (ft := 3) (off := 0) rfl Try.underlying139 rfl tI3 (by decide) ?_
  try dsimp only [putL, setL, evL, getL]
  refine HL_want ?_ ?_
  ·exact wantT (j := 3) (b := false) (t := 6) (c := p0_0 == 5) rfl rfl rfl rfl hb4
  refine o_load' rfl Try.underlying3 rfl (hH.hasv 0 rfl rfl) ?_
  try dsimp only [putL, setL, evL, getL]
  refine HL_want ?_ ?_
  ·exact wantT (j := 3) (b := false) (t := 6) (c := p0_0 == 5) rfl rfl rfl rfl hb4
  refine o_bin rfl rfl rfl ?_
  try dsimp only [putL, setL, evL, getL]
  refine HL_cons rfl ?_
  refine o_pickF rfl hb4 ?_
  try dsimp only [putL, setL, evL, getL]
  refine HL_cons rfl ?_
  refine o_assign ?_
  try dsimp only [putL, setL, evL, getL]
  refine HL_nil ?_
  refine hK3 _ _ ?_
  refine HT_ret ?_
  exact hQr _ _ [.bool (p0_0 == 7)] ⟨rfl, trivial⟩ (retH (fun r => impl_isPlain_1.post sb s F0 r _ _) (show some _ = some r from H) ⟨rfl, hH.sel [] (by decide)⟩)
def slices_IndexFunc_impl_Re_impl_Re_impl_isPlain_1.l1 (p0 : List ((Int) × (List (Int)))) : Nat → Int → Option (Lo Unit Int)
 | 0, _ => none
 | kf + 1, x52 => if (decide (x52 < (p0.length : Int))) = true then ((rd? p0 x52).bind fun u72 => (impl_isPlain_1.f u72.1 u72.2).bind fun u74 => if u74 = true then ((some x52).bind fun z => some (Lo.ret z)) else (slices_IndexFunc_impl_Re_impl_Re_impl_isPlain_1.l1 p0 kf (IntKind.i64.wrap (x52 + 1)))) else (some (Lo.go ()))
def slices_IndexFunc_impl_Re_impl_Re_impl_isPlain_1.f (p0 : List ((Int) × (List (Int)))) : Option Int := (slices_IndexFunc_impl_Re_impl_Re_impl_isPlain_1.l1 p0 ((((p0.length : Int)) - (0)).toNat + 2) 0).bind fun (o : Lo Unit Int) => match o with | .go () => (some (-1)) | .ret z => some z
def slices_IndexFunc_impl_Re_impl_Re_impl_isPlain_1.post (sb s : St) (F0 : Fp) (r : Int) : Value → St → Prop := fun v s' => v = .int .i64 r ∧ Hp sb s F0 s' []
set_option maxRecDepth 100000 in
set_option maxHeartbeats 4000000 in
theorem slices_IndexFunc_impl_Re_impl_Re_impl_isPlain_1.ok (sb s : St) (F0 : Fp) (A0p : Option Addr) (c0p : Nat) (p0 : List ((Int) × (List (Int)))) (HRp0 : Rd KS139 sb A0p c0p p0) (hH : Hp sb s F0 s []) (r : Int) (H : slices_IndexFunc_impl_Re_impl_Re_impl_isPlain_1.f p0 = some r) : GCall Try.prog 221 #[.slice A0p p0.length c0p, .func (.func 194) #[] #[]] s (slices_IndexFunc_impl_Re_impl_Re_impl_isPlain_1.post sb s F0 r) := by
 refine GCall_ofk [.tmp 4] [.slice A0p p0.length c0p, .func (.func 194) #[] #[], undef, undef, undef, undef, undef, undef, undef, undef, undef, undef, undef, undef, undef, undef, undef, undef, undef] Try.func221 rfl rfl rfl ?_
 intro w Q hQr hQn hQp
 replace H := topE H
 unfold slices_IndexFunc_impl_Re_impl_Re_impl_isPlain_1.f at H
 refine HT_seq_k ?_
 intro K1 hK1
 refine HT_region ?_
 refine HL_cons rfl ?_
 refine o_assign ?_
 try dsimp only [putL, setL, evL, getL]
 refine HL_nil ?_
 refine hK1 _ _ ?_
 refine HT_seq_k ?_
 intro K2 hK2
 refine HT_seq_k ?_
 intro K3 hK3
 refine HT_region ?_
 refine HL_cons rfl ?_
 refine o_move ?_
 try dsimp only [putL, setL, evL, getL]
 refine HL_cons rfl ?_
 refine o_len rfl Try.underlying57 ?_
 try dsimp only [putL, setL, evL, getL]
 refine HL_cons rfl ?_
 refine o_move ?_
 try dsimp only [putL, setL, evL, getL]
 refine HL_nil ?_
 refine hK3 _ _ ?_
 refine joinH H fun G4 hG4 H => ?_
 refine HT_toK (fun l' s' => G4 (.go ()) = some r ∧ l' = [.slice A0p p0.length c0p, .func (.func 194) #[] #[], undef, undef, getL l' 4, getL l' 5, .slice A0p p0.length c0p, .int .i64 (p0.length : Int), getL l' 8, getL l' 9, getL l' 10, getL l' 11, getL l' 12, getL l' 13, getL l' 14, getL l' 15, getL l' 16, getL l' 17, getL l' 18] ∧ Hp sb s F0 s' []) ?_ ?_
 ·intro K4 hK4
  refine HT_block ?_
  refine HT_loopK (fun kf l' s' => ∃ (x52 : Int), (slices_IndexFunc_impl_Re_impl_Re_impl_isPlain_1.l1 p0 kf x52).bind G4 = some r ∧ l' = [.slice A0p p0.length c0p, .func (.func 194) #[] #[], undef, undef, getL l' 4, getL l' 5, .slice A0p p0.length c0p, .int .i64 (p0.length : Int), .int .i64 x52, getL l' 9, getL l' 10, getL l' 11, getL l' 12, getL l' 13, getL l' 14, getL l' 15, getL l' 16, getL l' 17, getL l' 18] ∧ Hp sb s F0 s' []) ((((p0.length : Int)) - (0)).toNat + 2) ⟨0, H, rfl, hH⟩ ?_
  rintro kf l' s65 ⟨x52, H, hl, hH⟩ K65 hK65
  generalize getL l' 4 = j4, getL l' 5 = j5, getL l' 9 = j9, getL l' 10 = j10, getL l' 11 = j11, getL l' 12 = j12, getL l' 13 = j13, getL l' 14 = j14, getL l' 15 = j15, getL l' 16 = j16, getL l' 17 = j17, getL l' 18 = j18 at hl
  subst hl
  cases kf with
  | zero => simp [slices_IndexFunc_impl_Re_impl_Re_impl_isPlain_1.l1] at H
  | succ kf =>
   rw [slices_IndexFunc_impl_Re_impl_Re_impl_isPlain_1.l1] at H
   refine HT_seq_k ?_
   intro K66 hK66
   refine HT_region ?_
   refine HL_cons rfl ?_
   refine o_bin rfl rfl rfl ?_
   try dsimp only [putL, setL, evL, getL]
   refine HL_nil ?_
   refine hK66 _ _ ?_
   refine HT_seq_k ?_
   intro K67 hK67
   rcases Bool.eq_false_or_eq_true (decide (x52 < (p0.length : Int))) with hb68 | hb68
   ·replace H := iteT hb68 H
    refine HT_true (congrArg Value.bool hb68) ?_
    refine HT_skip ?_
    refine hK67 _ _ ?_
    refine HT_seq_k ?_
    intro K69 hK69
    refine HT_block ?_
    refine HT_seq_k ?_
    intro K70 hK70
    refine HT_region ?_
    refine HL_cons rfl ?_
    refine o_move ?_
    try dsimp only [putL, setL, evL, getL]
    refine HL_cons rfl ?_
    refine o_assign ?_
    try dsimp only [putL, setL, evL, getL]
    refine HL_nil ?_
    refine hK70 _ _ ?_
    refine HT_seq_k ?_
    intro K71 hK71
    refine HT_region ?_
    refine HL_cons rfl ?_
    refine o_move ?_
    try dsimp only [putL, setL, evL, getL]
    refine HL_cons rfl ?_
    refine o_move ?_
    try dsimp only [putL, setL, evL, getL]
    refine HL_cons rfl ?_
    refine o_move ?_
    try dsimp only [putL, setL, evL, getL]
    replace H := headE H
    obtain ⟨u72, hu72, H⟩ := H
    obtain ⟨b72, o72, cs72, hr72, hh72, hel72⟩ := Rd.elb HRp0 hu72
    obtain ⟨_, _, rfl, rfl, ⟨A73, c73, rfl, D73⟩⟩ := hr72
    refine HL_cons rfl ?_
    refine hel72 s65 rfl rfl Try.underlying57 tI139 ?_
    try dsimp only [putL, setL, evL, getL]
    refine HL_cons rfl ?_
    refine o_loads' [.int .i64 u72.1, .slice A73 u72.2.length c73] rfl Try.underlying139 rfl tI139 rfl (fun j v hj => (hh72 hH.bs.mono) j v hj) ?_
    try dsimp only [putL, setL, evL, getL]
    replace H := headE H
    obtain ⟨u74, hu74, H⟩ := H
    refine HL_cons rfl ?_
    refine o_callv (first := #[]) (cap := #[]) (args := #[.agg #[.int .i64 u72.1, .slice A73 u72.2.length c73]]) rfl Try.func194 rfl rfl [.agg #[.int .i64 u72.1, .slice A73 u72.2.length c73]] rfl (by simp) (impl_isPlain_1.ok sb s65 no u72.1 A73 c73 u72.2 D73 (Hp.own hH.bs) _ hu74) ?_
    rintro _ s74 ⟨rfl, hD⟩
    replace hH := hH.back0 hD (Up.refl _ _ _)
    clear hD
    dsimp only [addC, setC, rmC, selC, getC] at hH
    try dsimp only [putL, setL, evL, getL]
    refine HL_nil ?_
    refine hK71 _ _ ?_
    rcases Bool.eq_false_or_eq_true u74 with hb75 | hb75
    ·replace H := iteT hb75 H
     refine HT_true (congrArg Value.bool hb75) ?_
     refine HT_seq_k ?_
     intro K76 hK76
     refine HT_region ?_
     refine HL_cons rfl ?_
     refine o_move ?_
     try dsimp only [putL, setL, evL, getL]
     refine HL_cons rfl ?_
     refine o_assign ?_
     try dsimp only [putL, setL, evL, getL]
     refine HL_nil ?_
     refine hK76 _ _ ?_
     refine HT_ret ?_
     replace H := escH (fun z hz => hG4 _ hz) H
     exact hQr _ _ [.int .i64 x52] ⟨rfl, trivial⟩ (retH (fun r => slices_IndexFunc_impl_Re_impl_Re_impl_isPlain_1.post sb s F0 r _ _) (show some _ = some r from H) ⟨rfl, hH⟩)
    ·replace H := iteF hb75 H
     refine HT_false (congrArg Value.bool hb75) ?_
     refine HT_skip ?_
     refine hK69 _ _ ?_
     refine HT_region ?_
     refine HL_cons rfl ?_
     refine o_bin rfl rfl rfl ?_
     try dsimp only [putL, setL, evL, getL]
     refine HL_cons rfl ?_
     refine o_move ?_
     try dsimp only [putL, setL, evL, getL]
     refine HL_nil ?_
     exact hK65 _ _ ⟨kf, Nat.lt_succ_self kf, IntKind.i64.wrap (x52 + 1), H, rfl, hH⟩
   ·replace H := iteF hb68 H
    refine HT_false (congrArg Value.bool hb68) ?_
    refine HT_exit ?_
    exact hK4 _ _ ⟨H, rfl, hH⟩
 ·rintro l' s77 ⟨H, hl, hH⟩
  generalize getL l' 4 = j4, getL l' 5 = j5, getL l' 8 = j8, getL l' 9 = j9, getL l' 10 = j10, getL l' 11 = j11, getL l' 12 = j12, getL l' 13 = j13, getL l' 14 = j14, getL l' 15 = j15, getL l' 16 = j16, getL l' 17 = j17, getL l' 18 = j18 at hl
  subst hl
  replace H := hG4 _ H
  try dsimp only at H
  refine hK2 _ _ ?_
  refine HT_seq_k ?_
  intro K78 hK78
  refine HT_region ?_
  refine HL_cons rfl ?_
  refine o_assign ?_
  try dsimp only [putL, setL, evL, getL]
  refine HL_nil ?_
  refine hK78 _ _ ?_
  refine HT_ret ?_
  exact hQr _ _ [.int .i64 (-1)] ⟨rfl, trivial⟩ (retH (fun r => slices_IndexFunc_impl_Re_impl_Re_impl_isPlain_1.post sb s F0 r _ _) (show some _ = some r from H) ⟨rfl, hH⟩)
def slices_ContainsFunc_impl_Re_impl_Re_impl_isPlain_1.f (p0 : List ((Int) × (List (Int)))) : Option Bool := (slices_IndexFunc_impl_Re_impl_Re_impl_isPlain_1.f p0).bind fun u3 => some (decide (u3 ≥ 0))
def slices_ContainsFunc_impl_Re_impl_Re_impl_isPlain_1.post (sb s : St) (F0 : Fp) (r : Bool) : Value → St → Prop := fun v s' => v = .bool r ∧ Hp sb s F0 s' []
set_option maxRecDepth 100000 in
set_option maxHeartbeats 4000000 in
theorem slices_ContainsFunc_impl_Re_impl_Re_impl_isPlain_1.ok (sb s : St) (F0 : Fp) (A0p : Option Addr) (c0p : Nat) (p0 : List ((Int) × (List (Int)))) (HRp0 : Rd KS139 sb A0p c0p p0) (hH : Hp sb s F0 s []) (r : Bool) (H : slices_ContainsFunc_impl_Re_impl_Re_impl_isPlain_1.f p0 = some r) : GCall Try.prog 190 #[.slice A0p p0.length c0p, .func (.func 194) #[] #[]] s (slices_ContainsFunc_impl_Re_impl_Re_impl_isPlain_1.post sb s F0 r) := by
 refine GCall_ofk [.tmp 4] [.slice A0p p0.length c0p, .func (.func 194) #[] #[], undef, undef, undef, undef, undef, undef, undef] Try.func190 rfl rfl rfl ?_
 intro w Q hQr hQn hQp
 replace H := topE H
 unfold slices_ContainsFunc_impl_Re_impl_Re_impl_isPlain_1.f at H
 refine HT_seq_k ?_
 intro K1 hK1
 refine HT_region ?_
 refine HL_cons rfl ?_
 refine o_assign ?_
 try dsimp only [putL, setL, evL, getL]
 refine HL_nil ?_
 refine hK1 _ _ ?_
 refine HT_seq_k ?_
 intro K2 hK2
 refine HT_region ?_
 refine HL_cons rfl ?_
 refine o_move ?_
 try dsimp only [putL, setL, evL, getL]
 refine HL_cons rfl ?_
 refine o_move ?_
 try dsimp only [putL, setL, evL, getL]
 replace H := headE H
 obtain ⟨u3, hu3, H⟩ := H
 refine HL_cons rfl ?_
 refine o_call (args := #[.slice A0p p0.length c0p, .func (.func 194) #[] #[]]) Try.func221 rfl rfl rfl (slices_IndexFunc_impl_Re_impl_Re_impl_isPlain_1.ok sb s no A0p c0p p0 HRp0 (Hp.own hH.bs) _ hu3) ?_
 rintro _ s3 ⟨rfl, hD⟩
 replace hH := hH.back0 hD (Up.refl _ _ _)
 clear hD
 dsimp only [addC, setC, rmC, selC, getC] at hH
 try dsimp only [putL, setL, evL, getL]
 refine HL_cons rfl ?_
 refine o_bin rfl rfl rfl ?_
 try dsimp only [putL, setL, evL, getL]
 refine HL_cons rfl ?_
 refine o_assign ?_
 try dsimp only [putL, setL, evL, getL]
 refine HL_nil ?_
 refine hK2 _ _ ?_
 refine HT_ret ?_
 exact hQr _ _ [.bool (decide (u3 ≥ 0))] ⟨rfl, trivial⟩ (retH (fun r => slices_ContainsFunc_impl_Re_impl_Re_impl_isPlain_1.post sb s F0 r _ _) (show some _ = some r from H) ⟨rfl, hH⟩)
def impl_isPlain.f (p0 : List ((Int) × (List (Int)))) : Option Bool := (slices_ContainsFunc_impl_Re_impl_Re_impl_isPlain_1.f p0).bind fun u3 => some (!u3)
def impl_isPlain.post (sb s : St) (F0 : Fp) (r : Bool) : Value → St → Prop := fun v s' => v = .bool r ∧ Hp sb s F0 s' []
set_option maxRecDepth 100000 in
set_option maxHeartbeats 4000000 in
theorem impl_isPlain.ok (sb s : St) (F0 : Fp) (A0p : Option Addr) (c0p : Nat) (p0 : List ((Int) × (List (Int)))) (HRp0 : Rd KS139 sb A0p c0p p0) (hH : Hp sb s F0 s []) (r : Bool) (H : impl_isPlain.f p0 = some r) : GCall Try.prog 132 #[.slice A0p p0.length c0p] s (impl_isPlain.post sb s F0 r) := by
 refine GCall_ofk [.tmp 2] [.slice A0p p0.length c0p, undef, undef, undef, undef, undef] Try.func132 rfl rfl rfl ?_
 intro w Q hQr hQn hQp
 replace H := topE H
 unfold impl_isPlain.f at H
 refine HT_seq_k ?_
 intro K1 hK1
 refine HT_region ?_
 refine HL_cons rfl ?_
 refine o_assign ?_
 try dsimp only [putL, setL, evL, getL]
 refine HL_nil ?_
 refine hK1 _ _ ?_
 refine HT_seq_k ?_
 intro K2 hK2
 refine HT_region ?_
 refine HL_cons rfl ?_
 refine o_move ?_
 try dsimp only [putL, setL, evL, getL]
 replace H := headE H
 obtain ⟨u3, hu3, H⟩ := H
 refine HL_cons rfl ?_
 refine o_call (args := #[.slice A0p p0.length c0p, .func (.func 194) #[] #[]]) Try.func190 rfl rfl rfl (slices_ContainsFunc_impl_Re_impl_Re_impl_isPlain_1.ok sb s no A0p c0p p0 HRp0 (Hp.own hH.bs) _ hu3) ?_
 rintro _ s3 ⟨rfl, hD⟩
 replace hH := hH.back0 hD (Up.refl _ _ _)
 clear hD
 dsimp only [addC, setC, rmC, selC, getC] at hH
 try dsimp only [putL, setL, evL, getL]
 refine HL_cons rfl ?_
 refine o_not rfl ?_
 try dsimp only [putL, setL, evL, getL]
 refine HL_cons rfl ?_
 refine o_assign ?_
 try dsimp only [putL, setL, evL, getL]
 refine HL_nil ?_
 refine hK2 _ _ ?_
 refine HT_ret ?_
 exact hQr _ _ [.bool (!u3)] ⟨rfl, trivial⟩ (retH (fun r => impl_isPlain.post sb s F0 r _ _) (show some _ = some r from H) ⟨rfl, hH⟩)
def impl_areRunes_1.f (p0 : Int) : Option Bool := (impl_GoodRune.f p0).bind fun u3 => some (!u3)
def impl_areRunes_1.post (sb s : St) (F0 : Fp) (r : Bool) : Value → St → Prop := fun v s' => v = .bool r ∧ Hp sb s F0 s' []
set_option maxRecDepth 100000 in
set_option maxHeartbeats 4000000 in
theorem impl_areRunes_1.ok (sb s : St) (F0 : Fp) (p0 : Int) (hH : Hp sb s F0 s []) (r : Bool) (H : impl_areRunes_1.f p0 = some r) : GCall Try.prog 186 #[.int .i64 p0] s (impl_areRunes_1.post sb s F0 r) := by
 refine GCall_ofk [.tmp 2] [.int .i64 p0, undef, undef, undef, undef, undef] Try.func186 rfl rfl rfl ?_
 intro w Q hQr hQn hQp
 replace H := topE H
 unfold impl_areRunes_1.f at H
 refine HT_seq_k ?_
 intro K1 hK1
 refine HT_region ?_
 refine HL_cons rfl ?_
 refine o_assign ?_
 try dsimp only [putL, setL, evL, getL]
 refine HL_nil ?_
 refine hK1 _ _ ?_
 refine HT_seq_k ?_
 intro K2 hK2
 refine HT_region ?_
 refine HL_cons rfl ?_
 refine o_move ?_
 try dsimp only [putL, setL, evL, getL]
 replace H := headE H
 obtain ⟨u3, hu3, H⟩ := H
 refine HL_cons rfl ?_
 refine o_call (args := #[.int .i64 p0]) Try.func146 rfl rfl rfl (impl_GoodRune.ok sb s no p0 (Hp.own hH.bs) _ hu3) ?_
 rintro _ s3 ⟨rfl, hD⟩
 replace hH := hH.back0 hD (Up.refl _ _ _)
 clear hD
 dsimp only [addC, setC, rmC, selC, getC] at hH
 try dsimp only [putL, setL, evL, getL]
 refine HL_cons rfl ?_
 refine o_not rfl ?_
 try dsimp only [putL, setL, evL, getL]
 refine HL_cons rfl ?_
 refine o_assign ?_
 try dsimp only [putL, setL, evL, getL]
 refine HL_nil ?_
 refine hK2 _ _ ?_
 refine HT_ret ?_
 exact hQr _ _ [.bool (!u3)] ⟨rfl, trivial⟩ (retH (fun r => impl_areRunes_1.post sb s F0 r _ _) (show some _ = some r from H) ⟨rfl, hH⟩)
def slices_IndexFunc_int_int_impl_areRunes_1.l1 (p0 : List (Int)) : Nat → Int → Option (Lo Unit Int)
 | 0, _ => none
 | kf + 1, x48 => if (decide (x48 < (p0.length : Int))) = true then ((rd? p0 x48).bind fun u67 => (impl_areRunes_1.f u67).bind fun u68 => if u68 = true then ((some x48).bind fun z => some (Lo.ret z)) else (slices_IndexFunc_int_int_impl_areRunes_1.l1 p0 kf (IntKind.i64.wrap (x48 + 1)))) else (some (Lo.go ()))
def slices_IndexFunc_int_int_impl_areRunes_1.f (p0 : List (Int)) : Option Int := (slices_IndexFunc_int_int_impl_areRunes_1.l1 p0 ((((p0.length : Int)) - (0)).toNat + 2) 0).bind fun (o : Lo Unit Int) => match o with | .go () => (some (-1)) | .ret z => some z
def slices_IndexFunc_int_int_impl_areRunes_1.post (sb s : St) (F0 : Fp) (r : Int) : Value → St → Prop := fun v s' => v = .int .i64 r ∧ Hp sb s F0 s' []
set_option maxRecDepth 100000 in
set_option maxHeartbeats 4000000 in
theorem slices_IndexFunc_int_int_impl_areRunes_1.ok (sb s : St) (F0 : Fp) (A0p : Option Addr) (c0p : Nat) (p0 : List (Int)) (HRp0 : Rd KI sb A0p c0p p0) (hH : Hp sb s F0 s []) (r : Int) (H : slices_IndexFunc_int_int_impl_areRunes_1.f p0 = some r) : GCall Try.prog 184 #[.slice A0p p0.length c0p, .func (.func 186) #[] #[]] s (slices_IndexFunc_int_int_impl_areRunes_1.post sb s F0 r) := by
 refine GCall_ofk [.tmp 4] [.slice A0p p0.length c0p, .func (.func 186) #[] #[], undef, undef, undef, undef, undef, undef, undef, undef, undef, undef, undef, undef, undef, undef, undef, undef, undef] Try.func184 rfl rfl rfl ?_
 intro w Q hQr hQn hQp
 replace H := topE H
 unfold slices_IndexFunc_int_int_impl_areRunes_1.f at H
 refine HT_seq_k ?_
 intro K1 hK1
 refine HT_region ?_
 refine HL_cons rfl ?_
 refine o_assign ?_
 try dsimp only [putL, setL, evL, getL]
 refine HL_nil ?_
 refine hK1 _ _ ?_
 refine HT_seq_k ?_
 intro K2 hK2
 refine HT_seq_k ?_
 intro K3 hK3
 refine HT_region ?_
 refine HL_cons rfl ?_
 refine o_move ?_
 try dsimp only [putL, setL, evL, getL]
 refine HL_cons rfl ?_
 refine o_len rfl Try.underlying24 ?_
 try dsimp only [putL, setL, evL, getL]
 refine HL_cons rfl ?_
 refine o_move ?_
 try dsimp only [putL, setL, evL, getL]
 refine HL_nil ?_
 refine hK3 _ _ ?_
 refine joinH H fun G4 hG4 H => ?_
 refine HT_toK (fun l' s' => G4 (.go ()) = some r ∧ l' = [.slice A0p p0.length c0p, .func (.func 186) #[] #[], undef, undef, getL l' 4, getL l' 5, .slice A0p p0.length c0p, .int .i64 (p0.length : Int), getL l' 8, getL l' 9, getL l' 10, getL l' 11, getL l' 12, getL l' 13, getL l' 14, getL l' 15, getL l' 16, getL l' 17, getL l' 18] ∧ Hp sb s F0 s' []) ?_ ?_
 ·intro K4 hK4
  refine HT_block ?_
  refine HT_loopK (fun kf l' s' => ∃ (x48 : Int), (slices_IndexFunc_int_int_impl_areRunes_1.l1 p0 kf x48).bind G4 = some r ∧ l' = [.slice A0p p0.length c0p, .func (.func 186) #[] #[], undef, undef, getL l' 4, getL l' 5, .slice A0p p0.length c0p, .int .i64 (p0.length : Int), .int .i64 x48, getL l' 9, getL l' 10, getL l' 11, getL l' 12, getL l' 13, getL l' 14, getL l' 15, getL l' 16, getL l' 17, getL l' 18] ∧ Hp sb s F0 s' []) ((((p0.length : Int)) - (0)).toNat + 2) ⟨0, H, rfl, hH⟩ ?_
  rintro kf l' s60 ⟨x48, H, hl, hH⟩ K60 hK60
  generalize getL l' 4 = j4, getL l' 5 = j5, getL l' 9 = j9, getL l' 10 = j10, getL l' 11 = j11, getL l' 12 = j12, getL l' 13 = j13, getL l' 14 = j14, getL l' 15 = j15, getL l' 16 = j16, getL l' 17 = j17, getL l' 18 = j18 at hl
  subst hl
  cases kf with
  | zero => simp [slices_IndexFunc_int_int_impl_areRunes_1.l1] at H
  | succ kf =>
   rw [slices_IndexFunc_int_int_impl_areRunes_1.l1] at H
   refine HT_seq_k ?_
   intro K61 hK61
   refine HT_region ?_
   refine HL_cons rfl ?_
   refine o_bin rfl rfl rfl ?_
   try dsimp only [putL, setL, evL, getL]
   refine HL_nil ?_
   refine hK61 _ _ ?_
   refine HT_seq_k ?_
   intro K62 hK62
   rcases Bool.eq_false_or_eq_true (decide (x48 < (p0.length : Int))) with hb63 | hb63
   ·replace H := iteT hb63 H
    refine HT_true (congrArg Value.bool hb63) ?_
    refine HT_skip ?_
    refine hK62 _ _ ?_
    refine HT_seq_k ?_
    intro K64 hK64
    refine HT_block ?_
    refine HT_seq_k ?_
    intro K65 hK65
    refine HT_region ?_
    refine HL_cons rfl ?_
    refine o_move ?_
    try dsimp only [putL, setL, evL, getL]
    refine HL_cons rfl ?_
    refine o_assign ?_
    try dsimp only [putL, setL, evL, getL]
    refine HL_nil ?_
    refine hK65 _ _ ?_
    refine HT_seq_k ?_
    intro K66 hK66
    refine HT_region ?_
    refine HL_cons rfl ?_
    refine o_move ?_
    try dsimp only [putL, setL, evL, getL]
    refine HL_cons rfl ?_
    refine o_move ?_
    try dsimp only [putL, setL, evL, getL]
    refine HL_cons rfl ?_
    refine o_move ?_
    try dsimp only [putL, setL, evL, getL]
    replace H := headE H
    obtain ⟨u67, hu67, H⟩ := H
    obtain ⟨b67, o67, cs67, hr67, hh67, hel67⟩ := Rd.elb HRp0 hu67
    obtain rfl := hr67
    refine HL_cons rfl ?_
    refine hel67 s60 rfl rfl Try.underlying24 tI3 ?_
    try dsimp only [putL, setL, evL, getL]
    refine HL_cons rfl ?_
    refine o_load' rfl Try.underlying3 rfl ((hh67 hH.bs.mono) 0 _ rfl) ?_
    try dsimp only [putL, setL, evL, getL]
    replace H := headE H
    obtain ⟨u68, hu68, H⟩ := H
    refine HL_cons rfl ?_
    refine o_callv (first := #[]) (cap := #[]) (args := #[.int .i64 u67]) rfl Try.func186 rfl rfl [.int .i64 u67] rfl (by simp) (impl_areRunes_1.ok sb s60 no u67 (Hp.own hH.bs) _ hu68) ?_
    rintro _ s68 ⟨rfl, hD⟩
    replace hH := hH.back0 hD (Up.refl _ _ _)
    clear hD
    dsimp only [addC, setC, rmC, selC, getC] at hH
    try dsimp only [putL, setL, evL, getL]
    refine HL_nil ?_
    refine hK66 _ _ ?_
    rcases Bool.eq_false_or_eq_true u68 with hb69 | hb69
    ·replace H := iteT hb69 H
     refine HT_true (congrArg Value.bool hb69) ?_
     refine HT_seq_k ?_
     intro K70 hK70
     refine HT_region ?_
     refine HL_cons rfl ?_
     refine o_move ?_
     try dsimp only [putL, setL, evL, getL]
     refine HL_cons rfl ?_
     refine o_assign ?_
     try dsimp only [putL, setL, evL, getL]
     refine HL_nil ?_
     refine hK70 _ _ ?_
     refine HT_ret ?_
     replace H := escH (fun z hz => hG4 _ hz) H
     exact hQr _ _ [.int .i64 x48] ⟨rfl, trivial⟩ (retH (fun r => slices_IndexFunc_int_int_impl_areRunes_1.post sb s F0 r _ _) (show some _ = some r from H) ⟨rfl, hH⟩)
    ·replace H := iteF hb69 H
     refine HT_false (congrArg Value.bool hb69) ?_
     refine HT_skip ?_
     refine hK64 _ _ ?_
     refine HT_region ?_
     refine HL_cons rfl ?_
     refine o_bin rfl rfl rfl ?_
     try dsimp only [putL, setL, evL, getL]
     refine HL_cons rfl ?_
     refine o_move ?_
     try dsimp only [putL, setL, evL, getL]
     refine HL_nil ?_
     exact hK60 _ _ ⟨kf, Nat.lt_succ_self kf, IntKind.i64.wrap (x48 + 1), H, rfl, hH⟩
   ·replace H := iteF hb63 H
    refine HT_false (congrArg Value.bool hb63) ?_
    refine HT_exit ?_
    exact hK4 _ _ ⟨H, rfl, hH⟩
 ·rintro l' s71 ⟨H, hl, hH⟩
  generalize getL l' 4 = j4, getL l' 5 = j5, getL l' 8 = j8, getL l' 9 = j9, getL l' 10 = j10, getL l' 11 = j11, getL l' 12 = j12, getL l' 13 = j13, getL l' 14 = j14, getL l' 15 = j15, getL l' 16 = j16, getL l' 17 = j17, getL l' 18 = j18 at hl
  subst hl
  replace H := hG4 _ H
  try dsimp only at H
  refine hK2 _ _ ?_
  refine HT_seq_k ?_
  intro K72 hK72
  refine HT_region ?_
  refine HL_cons rfl ?_
  refine o_assign ?_
  try dsimp only [putL, setL, evL, getL]
  refine HL_nil ?_
  refine hK72 _ _ ?_
  refine HT_ret ?_
  exact hQr _ _ [.int .i64 (-1)] ⟨rfl, trivial⟩ (retH (fun r => slices_IndexFunc_int_int_impl_areRunes_1.post sb s F0 r _ _) (show some _ = some r from H) ⟨rfl, hH⟩)
def slices_ContainsFunc_int_int_impl_areRunes_1.f (p0 : List (Int)) : Option Bool := (slices_IndexFunc_int_int_impl_areRunes_1.f p0).bind fun u3 => some (decide (u3 ≥ 0))
def slices_ContainsFunc_int_int_impl_areRunes_1.post (sb s : St) (F0 : Fp) (r : Bool) : Value → St → Prop := fun v s' => v = .bool r ∧ Hp sb s F0 s' []
set_option maxRecDepth 100000 in
set_option maxHeartbeats 4000000 in
theorem slices_ContainsFunc_int_int_impl_areRunes_1.ok (sb s : St) (F0 : Fp) (A0p : Option Addr) (c0p : Nat) (p0 : List (Int)) (HRp0 : Rd KI sb A0p c0p p0) (hH : Hp sb s F0 s []) (r : Bool) (H : slices_ContainsFunc_int_int_impl_areRunes_1.f p0 = some r) : GCall Try.prog 114 #[.slice A0p p0.length c0p, .func (.func 186) #[] #[]] s (slices_ContainsFunc_int_int_impl_areRunes_1.post sb s F0 r) := by
 refine GCall_ofk [.tmp 4] [.slice A0p p0.length c0p, .func (.func 186) #[] #[], undef, undef, undef, undef, undef, undef, undef] Try.func114 rfl rfl rfl ?_
 intro w Q hQr hQn hQp
 replace H := topE H
 unfold slices_ContainsFunc_int_int_impl_areRunes_1.f at H
 refine HT_seq_k ?_
 intro K1 hK1
 refine HT_region ?_
 refine HL_cons rfl ?_
 refine o_assign ?_
 try dsimp only [putL, setL, evL, getL]
 refine HL_nil ?_
 refine hK1 _ _ ?_
 refine HT_seq_k ?_
 intro K2 hK2
 refine HT_region ?_
 refine HL_cons rfl ?_
 refine o_move ?_
 try dsimp only [putL, setL, evL, getL]
 refine HL_cons rfl ?_
 refine o_move ?_
 try dsimp only [putL, setL, evL, getL]
 replace H := headE H
 obtain ⟨u3, hu3, H⟩ := H
 refine HL_cons rfl ?_
 refine o_call (args := #[.slice A0p p0.length c0p, .func (.func 186) #[] #[]]) Try.func184 rfl rfl rfl (slices_IndexFunc_int_int_impl_areRunes_1.ok sb s no A0p c0p p0 HRp0 (Hp.own hH.bs) _ hu3) ?_
 rintro _ s3 ⟨rfl, hD⟩
 replace hH := hH.back0 hD (Up.refl _ _ _)
 clear hD
 dsimp only [addC, setC, rmC, selC, getC] at hH
 try dsimp only [putL, setL, evL, getL]
 refine HL_cons rfl ?_
 refine o_bin rfl rfl rfl ?_
 try dsimp only [putL, setL, evL, getL]
 refine HL_cons rfl ?_
 refine o_assign ?_
 try dsimp only [putL, setL, evL, getL]
 refine HL_nil ?_
 refine hK2 _ _ ?_
 refine HT_ret ?_
 exact hQr _ _ [.bool (decide (u3 ≥ 0))] ⟨rfl, trivial⟩ (retH (fun r => slices_ContainsFunc_int_int_impl_areRunes_1.post sb s F0 r _ _) (show some _ = some r from H) ⟨rfl, hH⟩)
def impl_areRunes.f (p0 : List (Int)) (p1 : Int) : Option Bool := if (decide ((p0.length : Int) ≤ p1)) = true then ((slices_ContainsFunc_int_int_impl_areRunes_1.f p0).bind fun u4 => some (!u4)) else (some false)
def impl_areRunes.post (sb s : St) (F0 : Fp) (r : Bool) : Value → St → Prop := fun v s' => v = .bool r ∧ Hp sb s F0 s' []
set_option maxRecDepth 100000 in
set_option maxHeartbeats 4000000 in
theorem impl_areRunes.ok (sb s : St) (F0 : Fp) (A0p : Option Addr) (c0p : Nat) (p0 : List (Int)) (p1 : Int) (HRp0 : Rd KI sb A0p c0p p0) (hH : Hp sb s F0 s []) (r : Bool) (H : impl_areRunes.f p0 p1 = some r) : GCall Try.prog 118 #[.slice A0p p0.length c0p, .int .i64 p1] s (impl_areRunes.post sb s F0 r) := by
 refine GCall_ofk [.tmp 4] [.slice A0p p0.length c0p, .int .i64 p1, undef, undef, undef, undef, undef, undef, undef, undef, undef, undef, undef, undef] Try.func118 rfl rfl rfl ?_
 intro w Q hQr hQn hQp
 replace H := topE H
 unfold impl_areRunes.f at H
 refine HT_seq_k ?_
 intro K1 hK1
 refine HT_region ?_
 refine HL_cons rfl ?_
 refine o_assign ?_
 try dsimp only [putL, setL, evL, getL]
 refine HL_nil ?_
 refine hK1 _ _ ?_
 refine HT_seq_k ?_
 intro K2 hK2
 refine HT_region ?_
 refine HL_cons rfl ?_
 refine o_move ?_
 try dsimp only [putL, setL, evL, getL]
 refine HL_cons rfl ?_
 refine o_len rfl Try.underlying24 ?_
 try dsimp only [putL, setL, evL, getL]
 refine HL_cons rfl ?_
 refine o_move ?_
 try dsimp only [putL, setL, evL, getL]
 refine HL_cons rfl ?_
 refine o_bin rfl rfl rfl ?_
 try dsimp only [putL, setL, evL, getL]
 refine HL_cons rfl ?_
 refine o_move ?_
 try dsimp only [putL, setL, evL, getL]
 rcases Bool.eq_false_or_eq_true (decide ((p0.length : Int) ≤ p1)) with hb3 | hb3
 ·replace H := iteT hb3 H
  refine HL_want ?_ ?_
  ·exact wantT (j := 4) (b := true) (t := 9) (c := decide ((p0.length : Int) ≤ p1)) rfl rfl rfl rfl hb3
  refine o_move ?_
  try dsimp only [putL, setL, evL, getL]
  replace H := headE H
  obtain ⟨u4, hu4, H⟩ := H
  refine HL_want ?_ ?_
  ·exact wantT (j := 4) (b := true) (t := 9) (c := decide ((p0.length : Int) ≤ p1)) rfl rfl rfl rfl hb3
  refine o_call (args := #[.slice A0p p0.length c0p, .func (.func 186) #[] #[]]) Try.func114 rfl rfl rfl (slices_ContainsFunc_int_int_impl_areRunes_1.ok sb s no A0p c0p p0 HRp0 (Hp.own hH.bs) _ hu4) ?_
  rintro _ s4 ⟨rfl, hD⟩
  replace hH := hH.back0 hD (Up.refl _ _ _)
  clear hD
  dsimp only [addC, setC, rmC, selC, getC] at hH
  try dsimp only [putL, setL, evL, getL]
  refine HL_want ?_ ?_
  ·exact wantT (j := 4) (b := true) (t := 9) (c := decide ((p0.length : Int) ≤ p1)) rfl rfl rfl rfl hb3
  refine o_not rfl ?_
  try dsimp only [putL, setL, evL, getL]
  refine HL_cons rfl ?_
  refine o_pickT rfl hb3 ?_
  try dsimp only [putL, setL, evL, getL]
  refine HL_cons rfl ?_
  refine o_assign ?_
  try dsimp only [putL, setL, evL, getL]
  refine HL_nil ?_
  refine hK2 _ _ ?_
  refine HT_ret ?_
  exact hQr _ _ [.bool (!u4)] ⟨rfl, trivial⟩ (retH (fun r => impl_areRunes.post sb s F0 r _ _) (show some _ = some r from H) ⟨rfl, hH⟩)
 ·replace H := iteF hb3 H
  refine HL_skip ?_ ?_
  ·exact wantF (j := 4) (b := true) (t := 9) (c := decide ((p0.length : Int) ≤ p1)) rfl rfl rfl rfl hb3
  try dsimp only [putL, setL, evL, getL]
  refine HL_skip ?_ ?_
  ·exact wantF (j := 4) (b := true) (t := 9) (c := decide ((p0.length : Int) ≤ p1)) rfl rfl rfl rfl hb3
  try dsimp only [putL, setL, evL, getL]
  refine HL_skip ?_ ?_
  ·exact wantF (j := 4) (b := true) (t := 9) (c := decide ((p0.length : Int) ≤ p1)) rfl rfl rfl rfl hb3
  try dsimp only [putL, setL, evL, getL]
  refine HL_cons rfl ?_
  refine o_pickF rfl hb3 ?_
  try dsimp only [putL, setL, evL, getL]
  refine HL_cons rfl ?_
  refine o_assign ?_
  try dsimp only [putL, setL, evL, getL]
  refine HL_nil ?_
  refine hK2 _ _ ?_
  refine HT_ret ?_
  exact hQr _ _ [.bool false] ⟨rfl, trivial⟩ (retH (fun r => impl_areRunes.post sb s F0 r _ _) (show some _ = some r from H) ⟨rfl, hH⟩)
def impl_canParse.f (p0 : List ((Int) × (List (Int)))) (p1 : List (Int)) : Option Bool := (impl_GoodRe.f p0).bind fun u3 => if u3 = true then ((impl_isPlain.f p0).bind fun u5 => if u5 = true then ((impl_areRunes.f p1 40).bind fun u7 => some u7) else (some false)) else (some false)
def impl_canParse.post (sb s : St) (F0 : Fp) (r : Bool) : Value → St → Prop := fun v s' => v = .bool r ∧ Hp sb s F0 s' []
set_option maxRecDepth 100000 in
set_option maxHeartbeats 4000000 in
theorem impl_canParse.ok (sb s : St) (F0 : Fp) (A0p : Option Addr) (c0p : Nat) (p0 : List ((Int) × (List (Int)))) (A1p : Option Addr) (c1p : Nat) (p1 : List (Int)) (HRp0 : Rd KS139 sb A0p c0p p0) (HRp1 : Rd KI sb A1p c1p p1) (hH : Hp sb s F0 s []) (r : Bool) (H : impl_canParse.f p0 p1 = some r) : GCall Try.prog 152 #[.slice A0p p0.length c0p, .slice A1p p1.length c1p] s (impl_canParse.post sb s F0 r) := by
 refine GCall_ofk [.tmp 4] [.slice A0p p0.length c0p, .slice A1p p1.length c1p, undef, undef, undef, undef, undef, undef, undef, undef, undef, undef, undef, undef, undef] Try.func152 rfl rfl rfl ?_
 intro w Q hQr hQn hQp
 replace H := topE H
 unfold impl_canParse.f at H
 refine HT_seq_k ?_
 intro K1 hK1
 refine HT_region ?_
 refine HL_cons rfl ?_
 refine o_assign ?_
 try dsimp only [putL, setL, evL, getL]
 refine HL_nil ?_
 refine hK1 _ _ ?_
 refine HT_seq_k ?_
 intro K2 hK2
 refine HT_region ?_
 refine HL_cons rfl ?_
 refine o_move ?_
 try dsimp only [putL, setL, evL, getL]
 replace H := headE H
 obtain ⟨u3, hu3, H⟩ := H
 refine HL_cons rfl ?_
 refine o_call (args := #[.slice A0p p0.length c0p]) Try.func131 rfl rfl rfl (impl_GoodRe.ok sb s no A0p c0p p0 HRp0 (Hp.own hH.bs) _ hu3) ?_
 rintro _ s3 ⟨rfl, hD⟩
 replace hH := hH.back0 hD (Up.refl _ _ _)
 clear hD
 dsimp only [addC, setC, rmC, selC, getC] at hH
 try dsimp only [putL, setL, evL, getL]
 refine HL_cons rfl ?_
 refine o_move ?_
 try dsimp only [putL, setL, evL, getL]
 rcases Bool.eq_false_or_eq_true u3 with hb4 | hb4
 ·replace H := iteT hb4 H
  refine HL_want ?_ ?_
  ·exact wantT (j := 2) (b := true) (t := 7) (c := u3) rfl rfl rfl rfl hb4
  refine o_move ?_
  try dsimp only [putL, setL, evL, getL]
  replace H := headE H
  obtain ⟨u5, hu5, H⟩ := H
  refine HL_want ?_ ?_
  ·exact wantT (j := 2) (b := true) (t := 7) (c := u3) rfl rfl rfl rfl hb4
  refine o_call (args := #[.slice A0p p0.length c0p]) Try.func132 rfl rfl rfl (impl_isPlain.ok sb s3 no A0p c0p p0 HRp0 (Hp.own hH.bs) _ hu5) ?_
  rintro _ s5 ⟨rfl, hD⟩
  replace hH := hH.back0 hD (Up.refl _ _ _)
  clear hD
  dsimp only [addC, setC, rmC, selC, getC] at hH
  try dsimp only [putL, setL, evL, getL]
  refine HL_cons rfl ?_
  refine o_pickT rfl hb4 ?_
  try dsimp only [putL, setL, evL, getL]
  refine HL_cons rfl ?_
  refine o_move ?_
  try dsimp only [putL, setL, evL, getL]
  rcases Bool.eq_false_or_eq_true u5 with hb6 | hb6
  ·replace H := iteT hb6 H
   refine HL_want ?_ ?_
   ·exact wantT (j := 6) (b := true) (t := 11) (c := u5) rfl rfl rfl rfl hb6
   refine o_move ?_
   try dsimp only [putL, setL, evL, getL]
   replace H := headE H
   obtain ⟨u7, hu7, H⟩ := H
   refine HL_want ?_ ?_
   ·exact wantT (j := 6) (b := true) (t := 11) (c := u5) rfl rfl rfl rfl hb6
   refine o_call (args := #[.slice A1p p1.length c1p, .int .i64 40]) Try.func118 rfl rfl rfl (impl_areRunes.ok sb s5 no A1p c1p p1 40 HRp1 (Hp.own hH.bs) _ hu7) ?_
   rintro _ s7 ⟨rfl, hD⟩
   replace hH := hH.back0 hD (Up.refl _ _ _)
   clear hD
   dsimp only [addC, setC, rmC, selC, getC] at hH
   try dsimp only [putL, setL, evL, getL]
   refine HL_cons rfl ?_
   refine o_pickT rfl hb6 ?_
   try dsimp only [putL, setL, evL, getL]
   refine HL_cons rfl ?_
   refine o_assign ?_
   try dsimp only [putL, setL, evL, getL]
   refine HL_nil ?_
   refine hK2 _ _ ?_
   refine HT_ret ?_
   exact hQr _ _ [.bool u7] ⟨rfl, trivial⟩ (retH (fun r => impl_canParse.post sb s F0 r _ _) (show some _ = some r from H) ⟨rfl, hH⟩)
  ·replace H := iteF hb6 H
   refine HL_skip ?_ ?_
   ·exact wantF (j := 6) (b := true) (t := 11) (c := u5) rfl rfl rfl rfl hb6
   try dsimp only [putL, setL, evL, getL]
   refine HL_skip ?_ ?_
   ·exact wantF (j := 6) (b := true) (t := 11) (c := u5) rfl rfl rfl rfl hb6
   try dsimp only [putL, setL, evL, getL]
   refine HL_cons rfl ?_
   refine o_pickF rfl hb6 ?_
   try dsimp only [putL, setL, evL, getL]
   refine HL_cons rfl ?_
   refine o_assign ?_
   try dsimp only [putL, setL, evL, getL]
   refine HL_nil ?_
   refine hK2 _ _ ?_
   refine HT_ret ?_
   exact hQr _ _ [.bool false] ⟨rfl, trivial⟩ (retH (fun r => impl_canParse.post sb s F0 r _ _) (show some _ = some r from H) ⟨rfl, hH⟩)
 ·replace H := iteF hb4 H
  refine HL_skip ?_ ?_
  ·exact wantF (j := 2) (b := true) (t := 7) (c := u3) rfl rfl rfl rfl hb4
  try dsimp only [putL, setL, evL, getL]
  refine HL_skip ?_ ?_
  ·exact wantF (j := 2) (b := true) (t := 7) (c := u3) rfl rfl rfl rfl hb4
  try dsimp only [putL, setL, evL, getL]
  refine HL_cons rfl ?_
  refine o_pickF rfl hb4 ?_
  try dsimp only [putL, setL, evL, getL]
  refine HL_cons rfl ?_
  refine o_move ?_
  try dsimp only [putL, setL, evL, getL]
  refine HL_skip ?_ ?_
  ·exact wantF (j := 6) (b := true) (t := 11) (c := false) rfl rfl rfl rfl rfl
  try dsimp only [putL, setL, evL, getL]
  refine HL_skip ?_ ?_
  ·exact wantF (j := 6) (b := true) (t := 11) (c := false) rfl rfl rfl rfl rfl
  try dsimp only [putL, setL, evL, getL]
  refine HL_cons rfl ?_
  refine o_pickF rfl rfl ?_
  try dsimp only [putL, setL, evL, getL]
  refine HL_cons rfl ?_
  refine o_assign ?_
  try dsimp only [putL, setL, evL, getL]
  refine HL_nil ?_
  refine hK2 _ _ ?_
  refine HT_ret ?_
  exact hQr _ _ [.bool false] ⟨rfl, trivial⟩ (retH (fun r => impl_canParse.post sb s F0 r _ _) (show some _ = some r from H) ⟨rfl, hH⟩)
def impl_spansOf.l1 (p0 : List (Int)) : Nat → (List ((Int) × (Int))) → Int → Option (List ((Int) × (Int)))
 | 0, _, _ => none
 | kf + 1, x45, x46 => if (decide ((IntKind.i64.wrap (x46 + 1)) < (p0.length : Int))) = true then ((rd? p0 x46).bind fun u62 => (rd? p0 (IntKind.i64.wrap (x46 + 1))).bind fun u63 => (app? 8796093022208 x45 [(u62, u63)]).bind fun x65 => impl_spansOf.l1 p0 kf x65 (IntKind.i64.wrap (x46 + 2))) else (some x45)
def impl_spansOf.f (p0 : List (Int)) : Option (List ((Int) × (Int))) := (impl_spansOf.l1 p0 ((((p0.length : Int)) - (IntKind.i64.wrap (0 + 1))).toNat + 2) ([] : List ((Int) × (Int))) 0).bind fun (o : (List ((Int) × (Int)))) => match o with | x36 => (some x36)
def impl_spansOf.post (sb s : St) (F0 : Fp) (r : (List ((Int) × (Int)))) : Value → St → Prop := fun v s' => ∃ (A0 : Option Addr) (c0 : Nat), v = .slice A0 r.length c0 ∧ Hp sb s F0 s' [Ck.ol OS219 219 A0 c0 r]
set_option maxRecDepth 100000 in
set_option maxHeartbeats 4000000 in
theorem impl_spansOf.ok (sb s : St) (F0 : Fp) (A0p : Option Addr) (c0p : Nat) (p0 : List (Int)) (HRp0 : Rd KI sb A0p c0p p0) (hH : Hp sb s F0 s []) (r : (List ((Int) × (Int)))) (H : impl_spansOf.f p0 = some r) : GCall Try.prog 225 #[.slice A0p p0.length c0p] s (impl_spansOf.post sb s F0 r) := by
 refine GCall_ofk [.tmp 2] [.slice A0p p0.length c0p, undef, undef, undef, undef, undef, undef, undef, undef, undef, undef, undef, undef, undef, undef, undef, undef, undef, undef, undef, undef, undef, undef, undef, undef, undef, undef] Try.func225 rfl rfl rfl ?_
 intro w Q hQr hQn hQp
 replace H := topE H
 unfold impl_spansOf.f at H
 refine HT_seq_k ?_
 intro K1 hK1
 refine HT_region ?_
 refine HL_cons rfl ?_
 refine o_assign ?_
 try dsimp only [putL, setL, evL, getL]
 refine HL_nil ?_
 refine hK1 _ _ ?_
 refine HT_seq_k ?_
 intro K2 hK2
 refine HT_region ?_
 refine HL_cons rfl ?_
 refine o_lit0H (α := (Int) × (Int)) (K := KS219) (O := OS219) hH Try.underlying217 tI219 ?_
 intro A3 s3 hH' hG
 replace hH : Hp sb s F0 s3 [Ck.ol OS219 219 A3 0 ([] : List ((Int) × (Int)))] := hH'
 clear hH' hG
 try dsimp only [putL, setL, evL, getL]
 refine HL_cons rfl ?_
 refine o_assign ?_
 try dsimp only [putL, setL, evL, getL]
 refine HL_nil ?_
 refine hK2 _ _ ?_
 refine HT_seq_k ?_
 intro K4 hK4
 refine HT_seq_k ?_
 intro K5 hK5
 refine HT_region ?_
 refine HL_cons rfl ?_
 refine o_assign ?_
 try dsimp only [putL, setL, evL, getL]
 refine HL_nil ?_
 refine hK5 _ _ ?_
 refine joinH H fun G6 hG6 H => ?_
 refine HT_toK (fun l' s' => ∃ (x36 : List ((Int) × (Int))) (A36 : Option Addr) (c36 : Nat), G6 x36 = some r ∧ l' = [.slice A0p p0.length c0p, undef, .slice none 0 0, .slice A36 x36.length c36, getL l' 4, .slice A3 ([] : List ((Int) × (Int))).length 0, getL l' 6, getL l' 7, getL l' 8, getL l' 9, getL l' 10, getL l' 11, getL l' 12, getL l' 13, getL l' 14, getL l' 15, getL l' 16, getL l' 17, getL l' 18, getL l' 19, getL l' 20, getL l' 21, getL l' 22, getL l' 23, getL l' 24, getL l' 25, undef] ∧ Hp sb s F0 s' [Ck.ol OS219 219 A36 c36 x36]) ?_ ?_
 ·intro K6 hK6
  refine HT_block ?_
  refine HT_loopK (fun kf l' s' => ∃ (x45 : List ((Int) × (Int))) (A45 : Option Addr) (c45 : Nat) (x46 : Int), (impl_spansOf.l1 p0 kf x45 x46).bind G6 = some r ∧ l' = [.slice A0p p0.length c0p, undef, .slice none 0 0, .slice A45 x45.length c45, .int .i64 x46, .slice A3 ([] : List ((Int) × (Int))).length 0, getL l' 6, getL l' 7, getL l' 8, getL l' 9, getL l' 10, getL l' 11, getL l' 12, getL l' 13, getL l' 14, getL l' 15, getL l' 16, getL l' 17, getL l' 18, getL l' 19, getL l' 20, getL l' 21, getL l' 22, getL l' 23, getL l' 24, getL l' 25, undef] ∧ Hp sb s F0 s' [Ck.ol OS219 219 A45 c45 x45]) ((((p0.length : Int)) - (IntKind.i64.wrap (0 + 1))).toNat + 2) ⟨([] : List ((Int) × (Int))), A3, 0, 0, H, rfl, hH⟩ ?_
  rintro kf l' s57 ⟨x45, A45, c45, x46, H, hl, hH⟩ K57 hK57
  generalize getL l' 6 = j6, getL l' 7 = j7, getL l' 8 = j8, getL l' 9 = j9, getL l' 10 = j10, getL l' 11 = j11, getL l' 12 = j12, getL l' 13 = j13, getL l' 14 = j14, getL l' 15 = j15, getL l' 16 = j16, getL l' 17 = j17, getL l' 18 = j18, getL l' 19 = j19, getL l' 20 = j20, getL l' 21 = j21, getL l' 22 = j22, getL l' 23 = j23, getL l' 24 = j24, getL l' 25 = j25 at hl
  subst hl
  cases kf with
  | zero => simp [impl_spansOf.l1] at H
  | succ kf =>
   rw [impl_spansOf.l1] at H
   refine HT_seq_k ?_
   intro K58 hK58
   refine HT_seq_k ?_
   intro K59 hK59
   refine HT_region ?_
   refine HL_cons rfl ?_
   refine o_move ?_
   try dsimp only [putL, setL, evL, getL]
   refine HL_cons rfl ?_
   refine o_bin rfl rfl rfl ?_
   try dsimp only [putL, setL, evL, getL]
   refine HL_cons rfl ?_
   refine o_move ?_
   try dsimp only [putL, setL, evL, getL]
   refine HL_cons rfl ?_
   refine o_len rfl Try.underlying24 ?_
   try dsimp only [putL, setL, evL, getL]
   refine HL_cons rfl ?_
   refine o_bin rfl rfl rfl ?_
   try dsimp only [putL, setL, evL, getL]
   refine HL_nil ?_
   refine hK59 _ _ ?_
   rcases Bool.eq_false_or_eq_true (decide ((IntKind.i64.wrap (x46 + 1)) < (p0.length : Int))) with hb60 | hb60
   ·replace H := iteT hb60 H
    refine HT_true (congrArg Value.bool hb60) ?_
    refine HT_skip ?_
    refine hK58 _ _ ?_
    refine HT_seq_k ?_
    intro K61 hK61
    refine HT_block ?_
    refine HX_draw hMix ?_
    refine HX_lim (R := fun _ => True) (k := 0) (fun s' => Gro s57 s') 12 ?_
    have hR := Gro.refl s57
    have hH0 := hH
    refine HK_readP 0 (v := .slice A45 x45.length c45) rfl (by kernel_rfl) (fun c l s h => hQp c l s h) rfl (fun s' K hK => ?_) rfl rfl (fun _ => hR) ?_
    ·refine o_move ?_
     exact hK
    try dsimp only [putL, setL, evL, getL]
    refine HK_readP 1 (v := .slice A0p p0.length c0p) rfl (by kernel_rfl) (fun c l s h => hQp c l s h) rfl (fun s' K hK => ?_) rfl rfl (fun _ => hR) ?_
    ·refine o_move ?_
     exact hK
    try dsimp only [putL, setL, evL, getL]
    refine HK_readP 2 (v := .int .i64 x46) rfl (by kernel_rfl) (fun c l s h => hQp c l s h) rfl (fun s' K hK => ?_) rfl rfl (fun _ => hR) ?_
    ·refine o_move ?_
     exact hK
    try dsimp only [putL, setL, evL, getL]
    replace H := headE H
    obtain ⟨u62, hu62, H⟩ := H
    obtain ⟨b62, o62, cs62, hr62, hh62, hel62⟩ := Rd.elb HRp0 hu62
    obtain rfl := hr62
    refine HK_readP 3 (v := .pointer (some ⟨b62, o62, none⟩)) rfl (by kernel_rfl) (fun c l s h => hQp c l s h) rfl (fun s' K hK => ?_) rfl rfl (fun _ => hR) ?_
    ·refine hel62 s' rfl rfl Try.underlying24 tI3 ?_
     exact hK
    try dsimp only [putL, setL, evL, getL]
    refine HK_read 4 (v := .int .i64 u62) rfl (by kernel_rfl) (fun c l s h => hQp c l s h) rfl (fun s' hR' K hK => ?_) rfl rfl hR ?_
    ·refine o_load' rfl Try.underlying3 rfl ((hh62 (hH0.bs.mono.trans hR'.mono)) 0 _ rfl) ?_
     exact hK
    try dsimp only [putL, setL, evL, getL]
    refine HK_readP 5 (v := .slice A0p p0.length c0p) rfl (by kernel_rfl) (fun c l s h => hQp c l s h) rfl (fun s' K hK => ?_) rfl rfl (fun _ => hR) ?_
    ·refine o_move ?_
     exact hK
    try dsimp only [putL, setL, evL, getL]
    refine HK_readP 6 (v := .int .i64 x46) rfl (by kernel_rfl) (fun c l s h => hQp c l s h) rfl (fun s' K hK => ?_) rfl rfl (fun _ => hR) ?_
    ·refine o_move ?_
     exact hK
    try dsimp only [putL, setL, evL, getL]
    refine HK_readP 7 (v := .int .i64 (IntKind.i64.wrap (x46 + 1))) rfl (by kernel_rfl) (fun c l s h => hQp c l s h) rfl (fun s' K hK => ?_) rfl rfl (fun _ => hR) ?_
    ·refine o_bin rfl rfl rfl ?_
     exact hK
    try dsimp only [putL, setL, evL, getL]
    replace H := headE H
    obtain ⟨u63, hu63, H⟩ := H
    obtain ⟨b63, o63, cs63, hr63, hh63, hel63⟩ := Rd.elb HRp0 hu63
    obtain rfl := hr63
    refine HK_readP 8 (v := .pointer (some ⟨b63, o63, none⟩)) rfl (by kernel_rfl) (fun c l s h => hQp c l s h) rfl (fun s' K hK => ?_) rfl rfl (fun _ => hR) ?_
    ·refine hel63 s' rfl rfl Try.underlying24 tI3 ?_
     exact hK
    try dsimp only [putL, setL, evL, getL]
    refine HK_read 9 (v := .int .i64 u63) rfl (by kernel_rfl) (fun c l s h => hQp c l s h) rfl (fun s' hR' K hK => ?_) rfl rfl hR ?_
    ·refine o_load' rfl Try.underlying3 rfl ((hh63 (hH0.bs.mono.trans hR'.mono)) 0 _ rfl) ?_
     exact hK
    try dsimp only [putL, setL, evL, getL]
    refine HK_readP 10 (v := .agg #[.int .i64 u62, .int .i64 u63]) rfl (by kernel_rfl) (fun c l s h => hQp c l s h) rfl (fun s' K hK => ?_) rfl rfl (fun _ => hR) ?_
    ·refine o_build (pl := [(0, 1), (1, 1)]) (cs := #[.int .i64 u62, .int .i64 u63]) Try.underlying219 tI219 (by kernel_rfl) (by kernel_rfl) rfl ?_
     exact hK
    try dsimp only [putL, setL, evL, getL]
    refine HK_more [11] (by kernel_rfl) rfl (fun _ => hR) ⟨⟨_, rfl, Or.inl ⟨rfl, ?_⟩⟩, trivial⟩
    skip
    refine o_litF (K := KS219) (O := OS219) (ca := #[.int .i64 u62, .int .i64 u63]) [[.int .i64 u62, .int .i64 u63]] [(u62, u63)] hH Try.underlying217 tI219 rfl (by decide) rfl rfl (by kernel_rfl) rfl ⟨rfl, Ent.own (Ent.pair (v1 := [.int .i64 u62]) (v2 := [.int .i64 u63]) (x1 := u62) (x2 := u63) (Ent.flat rfl) (Ent.flat rfl)), trivial⟩ ?_
    intro A64 s64 hH' hG
    replace hR := hR.trans hG
    replace hH : Hp sb s F0 s64 [Ck.ol OS219 219 A45 c45 x45, Ck.ol OS219 219 A64 1 [(u62, u63)]] := hH'
    clear hH' hG
    try dsimp only [putL, setL, evL, getL]
    refine HK_more [12] (by kernel_rfl) rfl (fun _ => hR) ⟨⟨_, rfl, Or.inl ⟨rfl, ?_⟩⟩, trivial⟩
    replace H := headE H
    obtain ⟨x65, hx65, H⟩ := H
    skip
    refine o_appF (K := KS219) (n := 8796093022208) (A := A45) (c := c45) (xs := x45) (ys := [(u62, u63)]) (B := A64) (c2 := 1) hH 0 rfl rfl rfl rfl Try.underlying217 tI219 rfl (by decide) (by decide) (by decide) (Src.flat (hH.rd 1 rfl)) hx65 ?_
    intro A65 c65 s65 hH'
    replace hH : Hp sb s F0 s65 [Ck.ol OS219 219 A65 c65 x65, Ck.ol OS219 219 A64 1 [(u62, u63)]] := hH'
    clear hH'
    try dsimp only [putL, setL, evL, getL]
    refine HK_free (by kernel_rfl) ?_
    refine HX_lim (R := fun _ => True) (k := 0) (fun s' => Gro s65 s') 15 ?_
    have hR := Gro.refl s65
    have hH0 := hH
    refine HK_more [13] (by kernel_rfl) rfl (fun _ => hR) ⟨⟨_, rfl, Or.inl ⟨rfl, ?_⟩⟩, trivial⟩
    skip
    refine o_assign ?_
    try dsimp only [putL, setL, evL, getL]
    refine HK_done (fun _ => hR) (by kernel_rfl) ?_
    refine hK61 _ _ ?_
    refine HT_region ?_
    refine HL_cons rfl ?_
    refine o_move ?_
    try dsimp only [putL, setL, evL, getL]
    refine HL_cons rfl ?_
    refine o_bin rfl rfl rfl ?_
    try dsimp only [putL, setL, evL, getL]
    refine HL_cons rfl ?_
    refine o_assign ?_
    try dsimp only [putL, setL, evL, getL]
    refine HL_nil ?_
    exact hK57 _ _ ⟨kf, Nat.lt_succ_self kf, x65, A65, c65, IntKind.i64.wrap (x46 + 2), H, rfl, hH.sel [0] (by decide)⟩
   ·replace H := iteF hb60 H
    refine HT_false (congrArg Value.bool hb60) ?_
    refine HT_exit ?_
    exact hK6 _ _ ⟨x45, A45, c45, H, rfl, hH⟩
 ·rintro l' s66 ⟨x36, A36, c36, H, hl, hH⟩
  generalize getL l' 4 = j4, getL l' 6 = j6, getL l' 7 = j7, getL l' 8 = j8, getL l' 9 = j9, getL l' 10 = j10, getL l' 11 = j11, getL l' 12 = j12, getL l' 13 = j13, getL l' 14 = j14, getL l' 15 = j15, getL l' 16 = j16, getL l' 17 = j17, getL l' 18 = j18, getL l' 19 = j19, getL l' 20 = j20, getL l' 21 = j21, getL l' 22 = j22, getL l' 23 = j23, getL l' 24 = j24, getL l' 25 = j25 at hl
  subst hl
  replace H := hG6 _ H
  try dsimp only at H
  refine hK4 _ _ ?_
  refine HT_seq_k ?_
  intro K67 hK67
  refine HT_region ?_
  refine HL_cons rfl ?_
  refine o_move ?_
  try dsimp only [putL, setL, evL, getL]
  refine HL_cons rfl ?_
  refine o_assign ?_
  try dsimp only [putL, setL, evL, getL]
  refine HL_nil ?_
  refine hK67 _ _ ?_
  refine HT_ret ?_
  exact hQr _ _ [.slice A36 x36.length c36] ⟨rfl, trivial⟩ (retH (fun r => impl_spansOf.post sb s F0 r _ _) (show some _ = some r from H) ⟨A36, c36, rfl, hH⟩)
def impl_inSet_1.f (p0_0 : Int) (p0_1 : Int) (pf0_0 : Int) : Option Bool := (impl_inRange.f pf0_0 p0_0 p0_1).bind fun u4 => some u4
def impl_inSet_1.post (sb s : St) (F0 : Fp) (bpf0 : Nat) (pf0_0 : Int) (r : Bool) : Value → St → Prop := fun v s' => v = .bool r ∧ Hp sb s F0 s' [Ck.ov bpf0 [.int .i64 pf0_0] 3]
set_option maxRecDepth 100000 in
set_option maxHeartbeats 4000000 in
theorem impl_inSet_1.ok (sb s : St) (F0 : Fp) (p0_0 : Int) (p0_1 : Int) (bpf0 : Nat) (pf0_0 : Int) (hH : Hp sb s F0 s [Ck.ov bpf0 [.int .i64 pf0_0] 3]) (r : Bool) (H : impl_inSet_1.f p0_0 p0_1 pf0_0 = some r) : GCall Try.prog 226 #[.agg #[.int .i64 p0_0, .int .i64 p0_1], .pointer (some ⟨bpf0, 0, none⟩)] s (impl_inSet_1.post sb s F0 bpf0 pf0_0 r) := by
 refine GCall_ofk [.tmp 3] [.agg #[.int .i64 p0_0, .int .i64 p0_1], .pointer (some ⟨bpf0, 0, none⟩), undef, undef, undef, undef, undef, undef, undef, undef] Try.func226 rfl rfl rfl ?_
 intro w Q hQr hQn hQp
 replace H := topE H
 unfold impl_inSet_1.f at H
 refine HT_seq_k ?_
 intro K1 hK1
 refine HT_region ?_
 refine HL_cons rfl ?_
 refine o_boxH hH rfl ?_
 intro b2 s2 hH' hG
 replace hH : Hp sb s F0 s2 [Ck.ov bpf0 [.int .i64 pf0_0] 3, Ck.ov b2 [.int .i64 p0_0, .int .i64 p0_1] 219] := hH'
 clear hH' hG
 try dsimp only [putL, setL, evL, getL]
 refine HL_cons rfl ?_
 refine o_assign ?_
 try dsimp only [putL, setL, evL, getL]
 refine HL_nil ?_
 refine hK1 _ _ ?_
 refine HT_seq_k ?_
 intro K3 hK3
 refine HT_region ?_
 refine HL_cons rfl ?_
 refine o_load' rfl Try.underlying3 rfl (hH.hasv 0 rfl rfl) ?_
 try dsimp only [putL, setL, evL, getL]
 refine HL_cons rfl ?_
 refine o_faddr' (ft := 3) (off := 0) rfl Try.underlying219 rfl tI3 (by decide) ?_
 try dsimp only [putL, setL, evL, getL]
 refine HL_cons rfl ?_
 refine o_load' rfl Try.underlying3 rfl (hH.hasv 1 rfl rfl) ?_
 try dsimp only [putL, setL, evL, getL]
 refine HL_cons rfl ?_
 refine o_faddr' (ft := 3) (off := 1) rfl Try.underlying219 rfl tI3 (by decide) ?_
 try dsimp only [putL, setL, evL, getL]
 refine HL_cons rfl ?_
 refine o_load' rfl Try.underlying3 rfl (hH.hasv 1 rfl rfl) ?_
 try dsimp only [putL, setL, evL, getL]
 replace H := headE H
 obtain ⟨u4, hu4, H⟩ := H
 refine HL_cons rfl ?_
 refine o_call (args := #[.int .i64 pf0_0, .int .i64 p0_0, .int .i64 p0_1]) Try.func105 rfl rfl rfl (impl_inRange.ok sb s2 no pf0_0 p0_0 p0_1 (Hp.own hH.bs) _ hu4) ?_
 rintro _ s4 ⟨rfl, hD⟩
 replace hH := hH.back0 hD (Up.refl _ _ _)
 clear hD
 dsimp only [addC, setC, rmC, selC, getC] at hH
 try dsimp only [putL, setL, evL, getL]
 refine HL_cons rfl ?_
 refine o_assign ?_
 try dsimp only [putL, setL, evL, getL]
 refine HL_nil ?_
 refine hK3 _ _ ?_
 refine HT_ret ?_
 exact hQr _ _ [.bool u4] ⟨rfl, trivial⟩ (retH (fun r => impl_inSet_1.post sb s F0 bpf0 pf0_0 r _ _) (show some _ = some r from H) ⟨rfl, hH.sel [0] (by decide)⟩)
def slices_IndexFunc_impl_span_impl_span_impl_inSet_1.l1 (p0 : List ((Int) × (Int))) (p1c0_0 : Int) : Nat → Int → Option (Lo Unit Int)
 | 0, _ => none
 | kf + 1, x48 => if (decide (x48 < (p0.length : Int))) = true then ((rd? p0 x48).bind fun u67 => (impl_inSet_1.f u67.1 u67.2 p1c0_0).bind fun u68 => if u68 = true then ((some x48).bind fun z => some (Lo.ret z)) else (slices_IndexFunc_impl_span_impl_span_impl_inSet_1.l1 p0 p1c0_0 kf (IntKind.i64.wrap (x48 + 1)))) else (some (Lo.go ()))
def slices_IndexFunc_impl_span_impl_span_impl_inSet_1.f (p0 : List ((Int) × (Int))) (p1c0_0 : Int) : Option Int := (slices_IndexFunc_impl_span_impl_span_impl_inSet_1.l1 p0 p1c0_0 ((((p0.length : Int)) - (0)).toNat + 2) 0).bind fun (o : Lo Unit Int) => match o with | .go () => (some (-1)) | .ret z => some z
def slices_IndexFunc_impl_span_impl_span_impl_inSet_1.post (sb s : St) (F0 : Fp) (bp1c0 : Nat) (p1c0_0 : Int) (r : Int) : Value → St → Prop := fun v s' => v = .int .i64 r ∧ Hp sb s F0 s' [Ck.ov bp1c0 [.int .i64 p1c0_0] 3]
set_option maxRecDepth 100000 in
set_option maxHeartbeats 4000000 in
theorem slices_IndexFunc_impl_span_impl_span_impl_inSet_1.ok (sb s : St) (F0 : Fp) (A0p : Option Addr) (c0p : Nat) (p0 : List ((Int) × (Int))) (bp1c0 : Nat) (p1c0_0 : Int) (HRp0 : Rd KS219 sb A0p c0p p0) (hH : Hp sb s F0 s [Ck.ov bp1c0 [.int .i64 p1c0_0] 3]) (r : Int) (H : slices_IndexFunc_impl_span_impl_span_impl_inSet_1.f p0 p1c0_0 = some r) : GCall Try.prog 237 #[.slice A0p p0.length c0p, .func (.func 226) #[] #[.pointer (some ⟨bp1c0, 0, none⟩)]] s (slices_IndexFunc_impl_span_impl_span_impl_inSet_1.post sb s F0 bp1c0 p1c0_0 r) := by
 refine GCall_ofk [.tmp 4] [.slice A0p p0.length c0p, .func (.func 226) #[] #[.pointer (some ⟨bp1c0, 0, none⟩)], undef, undef, undef, undef, undef, undef, undef, undef, undef, undef, undef, undef, undef, undef, undef, undef, undef] Try.func237 rfl rfl rfl ?_
 intro w Q hQr hQn hQp
 replace H := topE H
 unfold slices_IndexFunc_impl_span_impl_span_impl_inSet_1.f at H
 refine HT_seq_k ?_
 intro K1 hK1
 refine HT_region ?_
 refine HL_cons rfl ?_
 refine o_assign ?_
 try dsimp only [putL, setL, evL, getL]
 refine HL_nil ?_
 refine hK1 _ _ ?_
 refine HT_seq_k ?_
 intro K2 hK2
 refine HT_seq_k ?_
 intro K3 hK3
 refine HT_region ?_
 refine HL_cons rfl ?_
 refine o_move ?_
 try dsimp only [putL, setL, evL, getL]
 refine HL_cons rfl ?_
 refine o_len rfl Try.underlying217 ?_
 try dsimp only [putL, setL, evL, getL]
 refine HL_cons rfl ?_
 refine o_move ?_
 try dsimp only [putL, setL, evL, getL]
 refine HL_nil ?_
 refine hK3 _ _ ?_
 refine joinH H fun G4 hG4 H => ?_
 refine HT_toK (fun l' s' => G4 (.go ()) = some r ∧ l' = [.slice A0p p0.length c0p, .func (.func 226) #[] #[.pointer (some ⟨bp1c0, 0, none⟩)], undef, undef, getL l' 4, getL l' 5, .slice A0p p0.length c0p, .int .i64 (p0.length : Int), getL l' 8, getL l' 9, getL l' 10, getL l' 11, getL l' 12, getL l' 13, getL l' 14, getL l' 15, getL l' 16, getL l' 17, getL l' 18] ∧ Hp sb s F0 s' [Ck.ov bp1c0 [.int .i64 p1c0_0] 3]) ?_ ?_
 ·intro K4 hK4
  refine HT_block ?_
  refine HT_loopK (fun kf l' s' => ∃ (x48 : Int), (slices_IndexFunc_impl_span_impl_span_impl_inSet_1.l1 p0 p1c0_0 kf x48).bind G4 = some r ∧ l' = [.slice A0p p0.length c0p, .func (.func 226) #[] #[.pointer (some ⟨bp1c0, 0, none⟩)], undef, undef, getL l' 4, getL l' 5, .slice A0p p0.length c0p, .int .i64 (p0.length : Int), .int .i64 x48, getL l' 9, getL l' 10, getL l' 11, getL l' 12, getL l' 13, getL l' 14, getL l' 15, getL l' 16, getL l' 17, getL l' 18] ∧ Hp sb s F0 s' [Ck.ov bp1c0 [.int .i64 p1c0_0] 3]) ((((p0.length : Int)) - (0)).toNat + 2) ⟨0, H, rfl, hH⟩ ?_
  rintro kf l' s60 ⟨x48, H, hl, hH⟩ K60 hK60
  generalize getL l' 4 = j4, getL l' 5 = j5, getL l' 9 = j9, getL l' 10 = j10, getL l' 11 = j11, getL l' 12 = j12, getL l' 13 = j13, getL l' 14 = j14, getL l' 15 = j15, getL l' 16 = j16, getL l' 17 = j17, getL l' 18 = j18 at hl
  subst hl
  cases kf with
  | zero => simp [slices_IndexFunc_impl_span_impl_span_impl_inSet_1.l1] at H
  | succ kf =>
   rw [slices_IndexFunc_impl_span_impl_span_impl_inSet_1.l1] at H
   refine HT_seq_k ?_
   intro K61 hK61
   refine HT_region ?_
   refine HL_cons rfl ?_
   refine o_bin rfl rfl rfl ?_
   try dsimp only [putL, setL, evL, getL]
   refine HL_nil ?_
   refine hK61 _ _ ?_
   refine HT_seq_k ?_
   intro K62 hK62
   rcases Bool.eq_false_or_eq_true (decide (x48 < (p0.length : Int))) with hb63 | hb63
   ·replace H := iteT hb63 H
    refine HT_true (congrArg Value.bool hb63) ?_
    refine HT_skip ?_
    refine hK62 _ _ ?_
    refine HT_seq_k ?_
    intro K64 hK64
    refine HT_block ?_
    refine HT_seq_k ?_
    intro K65 hK65
    refine HT_region ?_
    refine HL_cons rfl ?_
    refine o_move ?_
    try dsimp only [putL, setL, evL, getL]
    refine HL_cons rfl ?_
    refine o_assign ?_
    try dsimp only [putL, setL, evL, getL]
    refine HL_nil ?_
    refine hK65 _ _ ?_
    refine HT_seq_k ?_
    intro K66 hK66
    refine HT_region ?_
    refine HL_cons rfl ?_
    refine o_move ?_
    try dsimp only [putL, setL, evL, getL]
    refine HL_cons rfl ?_
    refine o_move ?_
    try dsimp only [putL, setL, evL, getL]
    refine HL_cons rfl ?_
    refine o_move ?_
    try dsimp only [putL, setL, evL, getL]
    replace H := headE H
    obtain ⟨u67, hu67, H⟩ := H
    obtain ⟨b67, o67, cs67, hr67, hh67, hel67⟩ := Rd.elb HRp0 hu67
    obtain ⟨_, _, rfl, rfl, rfl⟩ := hr67
    refine HL_cons rfl ?_
    refine hel67 s60 rfl rfl Try.underlying217 tI219 ?_
    try dsimp only [putL, setL, evL, getL]
    refine HL_cons rfl ?_
    refine o_loads' [.int .i64 u67.1, .int .i64 u67.2] rfl Try.underlying219 rfl tI219 rfl (fun j v hj => (hh67 hH.bs.mono) j v hj) ?_
    try dsimp only [putL, setL, evL, getL]
    replace H := headE H
    obtain ⟨u68, hu68, H⟩ := H
    obtain ⟨F1, hA, hB⟩ := hH.take [0] (by decide)
    dsimp only [addC, setC, rmC, selC, getC] at hA
    refine HL_cons rfl ?_
    refine o_callv (first := #[]) (cap := #[.pointer (some ⟨bp1c0, 0, none⟩)]) (args := #[.agg #[.int .i64 u67.1, .int .i64 u67.2], .pointer (some ⟨bp1c0, 0, none⟩)]) rfl Try.func226 rfl rfl [.agg #[.int .i64 u67.1, .int .i64 u67.2]] rfl (by simp) (impl_inSet_1.ok sb s60 F1 u67.1 u67.2 bp1c0 p1c0_0 hA _ hu68) ?_
    rintro _ s68 ⟨rfl, hD⟩
    replace hH := hB _ _ _ (Up.refl _ _ _) hD
    clear hD hA hB
    dsimp only [addC, setC, rmC, selC, getC] at hH
    try dsimp only [putL, setL, evL, getL]
    refine HL_nil ?_
    refine hK66 _ _ ?_
    rcases Bool.eq_false_or_eq_true u68 with hb69 | hb69
    ·replace H := iteT hb69 H
     refine HT_true (congrArg Value.bool hb69) ?_
     refine HT_seq_k ?_
     intro K70 hK70
     refine HT_region ?_
     refine HL_cons rfl ?_
     refine o_move ?_
     try dsimp only [putL, setL, evL, getL]
     refine HL_cons rfl ?_
     refine o_assign ?_
     try dsimp only [putL, setL, evL, getL]
     refine HL_nil ?_
     refine hK70 _ _ ?_
     refine HT_ret ?_
     replace H := escH (fun z hz => hG4 _ hz) H
     exact hQr _ _ [.int .i64 x48] ⟨rfl, trivial⟩ (retH (fun r => slices_IndexFunc_impl_span_impl_span_impl_inSet_1.post sb s F0 bp1c0 p1c0_0 r _ _) (show some _ = some r from H) ⟨rfl, hH.sel [1] (by decide)⟩)
    ·replace H := iteF hb69 H
     refine HT_false (congrArg Value.bool hb69) ?_
     refine HT_skip ?_
     refine hK64 _ _ ?_
     refine HT_region ?_
     refine HL_cons rfl ?_
     refine o_bin rfl rfl rfl ?_
     try dsimp only [putL, setL, evL, getL]
     refine HL_cons rfl ?_
     refine o_move ?_
     try dsimp only [putL, setL, evL, getL]
     refine HL_nil ?_
     exact hK60 _ _ ⟨kf, Nat.lt_succ_self kf, IntKind.i64.wrap (x48 + 1), H, rfl, hH.sel [1] (by decide)⟩
   ·replace H := iteF hb63 H
    refine HT_false (congrArg Value.bool hb63) ?_
    refine HT_exit ?_
    exact hK4 _ _ ⟨H, rfl, hH⟩
 ·rintro l' s71 ⟨H, hl, hH⟩
  generalize getL l' 4 = j4, getL l' 5 = j5, getL l' 8 = j8, getL l' 9 = j9, getL l' 10 = j10, getL l' 11 = j11, getL l' 12 = j12, getL l' 13 = j13, getL l' 14 = j14, getL l' 15 = j15, getL l' 16 = j16, getL l' 17 = j17, getL l' 18 = j18 at hl
  subst hl
  replace H := hG4 _ H
  try dsimp only at H
  refine hK2 _ _ ?_
  refine HT_seq_k ?_
  intro K72 hK72
  refine HT_region ?_
  refine HL_cons rfl ?_
  refine o_assign ?_
  try dsimp only [putL, setL, evL, getL]
  refine HL_nil ?_
  refine hK72 _ _ ?_
  refine HT_ret ?_
  exact hQr _ _ [.int .i64 (-1)] ⟨rfl, trivial⟩ (retH (fun r => slices_IndexFunc_impl_span_impl_span_impl_inSet_1.post sb s F0 bp1c0 p1c0_0 r _ _) (show some _ = some r from H) ⟨rfl, hH⟩)
def slices_ContainsFunc_impl_span_impl_span_impl_inSet_1.f (p0 : List ((Int) × (Int))) (p1c0_0 : Int) : Option Bool := (slices_IndexFunc_impl_span_impl_span_impl_inSet_1.f p0 p1c0_0).bind fun u3 => some (decide (u3 ≥ 0))
def slices_ContainsFunc_impl_span_impl_span_impl_inSet_1.post (sb s : St) (F0 : Fp) (bp1c0 : Nat) (p1c0_0 : Int) (r : Bool) : Value → St → Prop := fun v s' => v = .bool r ∧ Hp sb s F0 s' [Ck.ov bp1c0 [.int .i64 p1c0_0] 3]
set_option maxRecDepth 100000 in
set_option maxHeartbeats 4000000 in
theorem slices_ContainsFunc_impl_span_impl_span_impl_inSet_1.ok (sb s : St) (F0 : Fp) (A0p : Option Addr) (c0p : Nat) (p0 : List ((Int) × (Int))) (bp1c0 : Nat) (p1c0_0 : Int) (HRp0 : Rd KS219 sb A0p c0p p0) (hH : Hp sb s F0 s [Ck.ov bp1c0 [.int .i64 p1c0_0] 3]) (r : Bool) (H : slices_ContainsFunc_impl_span_impl_span_impl_inSet_1.f p0 p1c0_0 = some r) : GCall Try.prog 224 #[.slice A0p p0.length c0p, .func (.func 226) #[] #[.pointer (some ⟨bp1c0, 0, none⟩)]] s (slices_ContainsFunc_impl_span_impl_span_impl_inSet_1.post sb s F0 bp1c0 p1c0_0 r) := by
 refine GCall_ofk [.tmp 4] [.slice A0p p0.length c0p, .func (.func 226) #[] #[.pointer (some ⟨bp1c0, 0, none⟩)], undef, undef, undef, undef, undef, undef, undef] Try.func224 rfl rfl rfl ?_
 intro w Q hQr hQn hQp
 replace H := topE H
 unfold slices_ContainsFunc_impl_span_impl_span_impl_inSet_1.f at H
 refine HT_seq_k ?_
 intro K1 hK1
 refine HT_region ?_
 refine HL_cons rfl ?_
 refine o_assign ?_
 try dsimp only [putL, setL, evL, getL]
 refine HL_nil ?_
 refine hK1 _ _ ?_
 refine HT_seq_k ?_
 intro K2 hK2
 refine HT_region ?_
 refine HL_cons rfl ?_
 refine o_move ?_
 try dsimp only [putL, setL, evL, getL]
 refine HL_cons rfl ?_
 refine o_move ?_
 try dsimp only [putL, setL, evL, getL]
 replace H := headE H
 obtain ⟨u3, hu3, H⟩ := H
 obtain ⟨F1, hA, hB⟩ := hH.take [0] (by decide)
 dsimp only [addC, setC, rmC, selC, getC] at hA
 refine HL_cons rfl ?_
 refine o_call (args := #[.slice A0p p0.length c0p, .func (.func 226) #[] #[.pointer (some ⟨bp1c0, 0, none⟩)]]) Try.func237 rfl rfl rfl (slices_IndexFunc_impl_span_impl_span_impl_inSet_1.ok sb s F1 A0p c0p p0 bp1c0 p1c0_0 HRp0 hA _ hu3) ?_
 rintro _ s3 ⟨rfl, hD⟩
 replace hH := hB _ _ _ (Up.refl _ _ _) hD
 clear hD hA hB
 dsimp only [addC, setC, rmC, selC, getC] at hH
 try dsimp only [putL, setL, evL, getL]
 refine HL_cons rfl ?_
 refine o_bin rfl rfl rfl ?_
 try dsimp only [putL, setL, evL, getL]
 refine HL_cons rfl ?_
 refine o_assign ?_
 try dsimp only [putL, setL, evL, getL]
 refine HL_nil ?_
 refine hK2 _ _ ?_
 refine HT_ret ?_
 exact hQr _ _ [.bool (decide (u3 ≥ 0))] ⟨rfl, trivial⟩ (retH (fun r => slices_ContainsFunc_impl_span_impl_span_impl_inSet_1.post sb s F0 bp1c0 p1c0_0 r _ _) (show some _ = some r from H) ⟨rfl, hH.sel [1] (by decide)⟩)
def impl_inSet.f (p0 : List (Int)) (p1 : Int) : Option Bool := (impl_spansOf.f p0).bind fun u4 => (slices_ContainsFunc_impl_span_impl_span_impl_inSet_1.f u4 p1).bind fun u6 => some u6
def impl_inSet.post (sb s : St) (F0 : Fp) (r : Bool) : Value → St → Prop := fun v s' => v = .bool r ∧ Hp sb s F0 s' []
set_option maxRecDepth 100000 in
set_option maxHeartbeats 4000000 in
theorem impl_inSet.ok (sb s : St) (F0 : Fp) (A0p : Option Addr) (c0p : Nat) (p0 : List (Int)) (p1 : Int) (HRp0 : Rd KI sb A0p c0p p0) (hH : Hp sb s F0 s []) (r : Bool) (H : impl_inSet.f p0 p1 = some r) : GCall Try.prog 205 #[.slice A0p p0.length c0p, .int .i64 p1] s (impl_inSet.post sb s F0 r) := by
 refine GCall_ofk [.tmp 4] [.slice A0p p0.length c0p, .int .i64 p1, undef, undef, undef, undef, undef, undef, undef] Try.func205 rfl rfl rfl ?_
 intro w Q hQr hQn hQp
 replace H := topE H
 unfold impl_inSet.f at H
 refine HT_seq_k ?_
 intro K1 hK1
 refine HT_region ?_
 refine HL_cons rfl ?_
 refine o_box1H hH rfl rfl ?_
 intro b2 s2 hH' hG
 replace hH : Hp sb s F0 s2 [Ck.ov b2 [.int .i64 p1] 3] := hH'
 clear hH' hG
 try dsimp only [putL, setL, evL, getL]
 refine HL_cons rfl ?_
 refine o_assign ?_
 try dsimp only [putL, setL, evL, getL]
 refine HL_nil ?_
 refine hK1 _ _ ?_
 refine HT_seq_k ?_
 intro K3 hK3
 refine HT_region ?_
 refine HL_cons rfl ?_
 refine o_move ?_
 try dsimp only [putL, setL, evL, getL]
 replace H := headE H
 obtain ⟨u4, hu4, H⟩ := H
 refine HL_cons rfl ?_
 refine o_call (args := #[.slice A0p p0.length c0p]) Try.func225 rfl rfl rfl (impl_spansOf.ok sb s2 no A0p c0p p0 HRp0 (Hp.own hH.bs) _ hu4) ?_
 rintro _ s4 ⟨A5, c5, rfl, hD⟩
 replace hH := hH.back0 hD (Up.refl _ _ _)
 clear hD
 dsimp only [addC, setC, rmC, selC, getC] at hH
 try dsimp only [putL, setL, evL, getL]
 refine HL_cons rfl ?_
 refine o_func rfl rfl ?_
 try dsimp only [putL, setL, evL, getL]
 replace H := headE H
 obtain ⟨u6, hu6, H⟩ := H
 obtain ⟨F1, sx, hx, hC, hA, hB⟩ := hH.takeT [0] (by decide)
 dsimp only [addC, setC, rmC, selC, getC] at hA
 refine HL_cons rfl ?_
 refine o_call (args := #[.slice A5 u4.length c5, .func (.func 226) #[] #[.pointer (some ⟨b2, 0, none⟩)]]) Try.func224 rfl rfl rfl (slices_ContainsFunc_impl_span_impl_span_impl_inSet_1.ok sx s4 F1 A5 c5 u4 b2 p1 (Ck.rdT hx (hC 1 (by decide)) rfl) hA _ hu6) ?_
 rintro _ s6 ⟨rfl, hD⟩
 replace hH := hB _ _ _ inferInstance hD
 clear hD hA hB hx hC
 dsimp only [addC, setC, rmC, selC, getC] at hH
 try dsimp only [putL, setL, evL, getL]
 refine HL_cons rfl ?_
 refine o_assign ?_
 try dsimp only [putL, setL, evL, getL]
 refine HL_nil ?_
 refine hK3 _ _ ?_
 refine HT_ret ?_
 exact hQr _ _ [.bool u6] ⟨rfl, trivial⟩ (retH (fun r => impl_inSet.post sb s F0 r _ _) (show some _ = some r from H) ⟨rfl, hH.sel [] (by decide)⟩)
def impl_countOf.l1 (p0 : List (List (List (Int)))) (p1 : List (Int)) (p5 : Int) (p6 : Int) : Nat → Int → Int → Option Int
 | 0, _, _ => none
 | kf + 1, x266, x267 => if (decide (x267 ≤ p6)) = true then ((rd? p1 0).bind fun u291 => (rd? p0 u291).bind fun u292 => (rd? u292 p5).bind fun u294 => (rd? u294 x267).bind fun u296 => (rd? p1 1).bind fun u297 => (rd? p0 u297).bind fun u298 => (rd? u298 x267).bind fun u300 => (rd? u300 p6).bind fun u302 => impl_countOf.l1 p0 p1 p5 p6 kf (min (IntKind.i64.wrap (x266 + (IntKind.i64.wrap (u296 * u302)))) 1000000) (IntKind.i64.wrap (x267 + 1))) else (some x266)
def impl_countOf.l2 (p0 : List (List (List (Int)))) (p1 : List (Int)) (p2 : Int) (p5 : Int) (p6 : Int) : Nat → Int → Int → Option Int
 | 0, _, _ => none
 | kf + 1, x379, x380 => if (decide (x380 ≤ p6)) = true then ((rd? p1 0).bind fun u403 => (rd? p0 u403).bind fun u404 => (rd? u404 p5).bind fun u406 => (rd? u406 x380).bind fun u408 => (rd? p0 p2).bind fun u409 => (rd? u409 x380).bind fun u411 => (rd? u411 p6).bind fun u413 => impl_countOf.l2 p0 p1 p2 p5 p6 kf (min (IntKind.i64.wrap (x379 + (IntKind.i64.wrap (u408 * u413)))) 1000000) (IntKind.i64.wrap (x380 + 1))) else (some x379)
def impl_countOf.f (p0 : List (List (List (Int)))) (p1 : List (Int)) (p2 : Int) (p3_0 : Int) (p3_1 : List (Int)) (p4 : List (Int)) (p5 : Int) (p6 : Int) : Option Int := (if (p3_0 == 1) = true then ((some (if (p5 == p6) = true then 1 else 0)).bind fun z => some (Lo.ret z)) else (if (p3_0 == 2) = true then (if (p6 == (IntKind.i64.wrap (p5 + 1))) = true then ((rd? p4 p5).bind fun u165 => (impl_inSet.f p3_1 u165).bind fun u168 => (some (if u168 = true then 1 else 0)).bind fun z => some (Lo.ret z)) else ((some (if false = true then 1 else 0)).bind fun z => some (Lo.ret z))) else (if (p3_0 == 4) = true then ((rd? p1 0).bind fun u179 => (rd? p0 u179).bind fun u180 => (rd? u180 p5).bind fun u182 => (rd? u182 p6).bind fun u184 => (rd? p1 1).bind fun u185 => (rd? p0 u185).bind fun u186 => (rd? u186 p5).bind fun u188 => (rd? u188 p6).bind fun u190 => (some (IntKind.i64.wrap (u184 + u190))).bind fun z => some (Lo.ret z)) else (if (p3_0 == 3) = true then ((impl_countOf.l1 p0 p1 p5 p6 (((p6) - (p5)).toNat + 2) 0 p5).bind fun (o : Int) => match o with | x249 => ((some x249).bind fun z => some (Lo.ret z))) else (some (Lo.go ())))))).bind fun (o : Lo Unit Int) => match o with | .go () => (if (p5 == p6) = true then (some 1) else ((impl_countOf.l2 p0 p1 p2 p5 p6 (((p6) - (IntKind.i64.wrap (p5 + 1))).toNat + 2) 0 (IntKind.i64.wrap (p5 + 1))).bind fun (o : Int) => match o with | x363 => (some x363))) | .ret z => some z
def impl_countOf.post (sb s : St) (F0 : Fp) (r : Int) : Value → St → Prop := fun v s' => v = .int .i64 r ∧ Hp sb s F0 s' []
set_option maxRecDepth 100000 in
set_option maxHeartbeats 4000000 in
theorem impl_countOf.ok (sb s : St) (F0 : Fp) (A0p : Option Addr) (c0p : Nat) (p0 : List (List (List (Int)))) (A1p : Option Addr) (c1p : Nat) (p1 : List (Int)) (p2 : Int) (p3_0 : Int) (A3_1p : Option Addr) (c3_1p : Nat) (p3_1 : List (Int)) (A4p : Option Addr) (c4p : Nat) (p4 : List (Int)) (p5 : Int) (p6 : Int) (HRp0 : Rd (Kd.sl (Kd.sl KI)) sb A0p c0p p0) (HRp1 : Rd KI sb A1p c1p p1) (HRp3_1 : Rd KI sb A3_1p c3_1p p3_1) (HRp4 : Rd KI sb A4p c4p p4) (hH : Hp sb s F0 s []) (r : Int) (H : impl_countOf.f p0 p1 p2 p3_0 p3_1 p4 p5 p6 = some r) : GCall Try.prog 200 #[.slice A0p p0.length c0p, .slice A1p p1.length c1p, .int .i64 p2, .agg #[.int .i64 p3_0, .slice A3_1p p3_1.length c3_1p], .slice A4p p4.length c4p, .int .i64 p5, .int .i64 p6] s (impl_countOf.post sb s F0 r) := by
 refine GCall_ofk [.tmp 14] [.slice A0p p0.length c0p, .slice A1p p1.length c1p, .int .i64 p2, .agg #[.int .i64 p3_0, .slice A3_1p p3_1.length c3_1p], .slice A4p p4.length c4p, .int .i64 p5, .int .i64 p6, undef, undef, undef, undef, undef, undef, undef, undef, undef, undef, undef, undef, undef, undef, undef, undef, undef, undef, undef, undef, undef, undef, undef, undef, undef, undef, undef, undef, undef, undef, undef, undef, undef, undef, undef, undef, undef, undef, undef, undef, undef, undef, undef, undef, undef, undef, undef, undef, undef, undef, undef, undef, undef, undef, undef, undef, undef, undef, undef, undef, undef, undef, undef, undef, undef, undef, undef, undef, undef, undef, undef, undef, undef, undef, undef, undef, undef, undef, undef, undef, undef, undef, undef, undef, undef, undef, undef, undef, undef, undef, undef, undef, undef, undef, undef, undef, undef, undef, undef, undef, undef, undef, undef, undef, undef, undef, undef, undef, undef, undef, undef, undef, undef, undef, undef, undef, undef, undef, undef, undef, undef, undef, undef, undef, undef, undef, undef, undef, undef, undef, undef, undef, undef, undef, undef, undef, undef, undef, undef, undef] Try.func200 rfl rfl rfl ?_
 intro w Q hQr hQn hQp
 replace H := topE H
 unfold impl_countOf.f at H
 refine HT_seq_k ?_
 intro K1 hK1
 refine HT_region ?_
 refine HL_cons rfl ?_
 refine o_boxH hH rfl ?_
 intro b2 s2 hH' hG
 replace hH : Hp sb s F0 s2 [Ck.ov b2 [.int .i64 p3_0, .slice A3_1p p3_1.length c3_1p] 139] := hH'
 clear hH' hG
 try dsimp only [putL, setL, evL, getL]
 refine HL_cons rfl ?_
 refine o_assign ?_
 try dsimp only [putL, setL, evL, getL]
 refine HL_nil ?_
 refine hK1 _ _ ?_
 refine HT_seq_k ?_
 intro K3 hK3
 refine HT_region ?_
 refine HL_cons rfl ?_
 refine o_assign ?_
 try dsimp only [putL, setL, evL, getL]
 refine HL_nil ?_
 refine hK3 _ _ ?_
 refine HT_seq_k ?_
 intro K4 hK4
 refine HT_seq_k ?_
 intro K5 hK5
 refine HT_region ?_
 refine HL_cons rfl ?_
 refine o_faddr' (ft := 3) (off := 0) rfl Try.underlying139 rfl tI3 (by decide) ?_
 try dsimp only [putL, setL, evL, getL]
 refine HL_cons rfl ?_
 refine o_load' rfl Try.underlying3 rfl (hH.hasv 0 rfl rfl) ?_
 try dsimp only [putL, setL, evL, getL]
 refine HL_nil ?_
 refine hK5 _ _ ?_
 refine joinH H fun G6 hG6 H => ?_
 refine HT_toK (fun l' s' => G6 (.go ()) = some r ∧ l' = [.slice A0p p0.length c0p, .slice A1p p1.length c1p, .int .i64 p2, .agg #[.int .i64 p3_0, .slice A3_1p p3_1.length c3_1p], .slice A4p p4.length c4p, .int .i64 p5, .int .i64 p6, undef, undef, undef, .pointer (some ⟨b2, 0, none⟩), undef, undef, undef, getL l' 14, .int .i64 0, getL l' 16, undef, .pointer (some ⟨b2, 0 + 0, none⟩), .int .i64 p3_0, getL l' 20, getL l' 21, getL l' 22, getL l' 23, getL l' 24, getL l' 25, getL l' 26, getL l' 27, getL l' 28, getL l' 29, getL l' 30, getL l' 31, getL l' 32, getL l' 33, getL l' 34, getL l' 35, getL l' 36, getL l' 37, getL l' 38, getL l' 39, getL l' 40, getL l' 41, getL l' 42, getL l' 43, getL l' 44, getL l' 45, getL l' 46, getL l' 47, getL l' 48, getL l' 49, getL l' 50, getL l' 51, getL l' 52, getL l' 53, getL l' 54, getL l' 55, getL l' 56, getL l' 57, getL l' 58, getL l' 59, getL l' 60, getL l' 61, getL l' 62, getL l' 63, getL l' 64, getL l' 65, getL l' 66, getL l' 67, getL l' 68, getL l' 69, getL l' 70, getL l' 71, getL l' 72, getL l' 73, getL l' 74, getL l' 75, getL l' 76, getL l' 77, getL l' 78, getL l' 79, getL l' 80, getL l' 81, getL l' 82, getL l' 83, getL l' 84, getL l' 85, getL l' 86, getL l' 87, getL l' 88, getL l' 89, getL l' 90, getL l' 91, getL l' 92, getL l' 93, getL l' 94, getL l' 95, getL l' 96, getL l' 97, getL l' 98, getL l' 99, getL l' 100, getL l' 101, getL l' 102, getL l' 103, getL l' 104, getL l' 105, getL l' 106, getL l' 107, getL l' 108, getL l' 109, undef, undef, undef, undef, undef, undef, undef, undef, undef, undef, undef, undef, undef, undef, undef, undef, undef, undef, undef, undef, undef, undef, undef, undef, undef, undef, undef, undef, undef, undef, undef, undef, undef, undef, undef, undef, undef] ∧ Hp sb s F0 s' []) ?_ ?_
 ·intro K6 hK6
  refine HT_block ?_
  refine HT_seq_k ?_
  intro K156 hK156
  refine HT_region ?_
  refine HL_cons rfl ?_
  refine o_bin rfl rfl rfl ?_
  try dsimp only [putL, setL, evL, getL]
  refine HL_cons rfl ?_
  refine o_assign ?_
  try dsimp only [putL, setL, evL, getL]
  refine HL_nil ?_
  refine hK156 _ _ ?_
  rcases Bool.eq_false_or_eq_true (p3_0 == 1) with hb157 | hb157
  ·replace H := iteT hb157 H
   refine HT_true (congrArg Value.bool hb157) ?_
   refine HT_seq_k ?_
   intro K158 hK158
   refine HT_region ?_
   refine HL_cons rfl ?_
   refine o_mapH hH ?_
   intro b159 s159 hH' hG hF
   replace hH : Hp sb s F0 s159 [Ck.ov b2 [.int .i64 p3_0, .slice A3_1p p3_1.length c3_1p] 139, Ck.ox b159 (.map #[] 0)] := hH'
   clear hH' hG hF
   try dsimp only [putL, setL, evL, getL]
   refine HL_cons rfl ?_
   refine o_insH hH 1 rfl rfl rfl rfl rfl Try.underlying215 Try.underlying4 ?_
   intro s160 hH' hG
   replace hH : Hp sb s F0 s160 [Ck.ov b2 [.int .i64 p3_0, .slice A3_1p p3_1.length c3_1p] 139, Ck.ox b159 (.map #[⟨.bool true, .int .i64 1, 0⟩] 1)] := hH'
   clear hH' hG
   try dsimp only [putL, setL, evL, getL]
   refine HL_cons rfl ?_
   refine o_move ?_
   try dsimp only [putL, setL, evL, getL]
   refine HL_cons rfl ?_
   refine o_move ?_
   try dsimp only [putL, setL, evL, getL]
   refine HL_cons rfl ?_
   refine o_move ?_
   try dsimp only [putL, setL, evL, getL]
   refine HL_cons rfl ?_
   refine o_bin rfl rfl rfl ?_
   try dsimp only [putL, setL, evL, getL]
   refine HL_cons rfl ?_
   refine o_lkI (kb := (p5 == p6)) (vi := 1) (zi := 0) hH 1 rfl rfl rfl Try.underlying215 Try.underlying4 tI3 ?_
   try dsimp only [putL, setL, evL, getL]
   refine HL_cons rfl ?_
   refine o_assign ?_
   try dsimp only [putL, setL, evL, getL]
   refine HL_nil ?_
   refine hK158 _ _ ?_
   refine HT_ret ?_
   replace H := escH (fun z hz => hG6 _ hz) H
   exact hQr _ _ [.int .i64 (if (p5 == p6) = true then 1 else 0)] ⟨rfl, trivial⟩ (retH (fun r => impl_countOf.post sb s F0 r _ _) (show some _ = some r from H) ⟨rfl, hH.sel [] (by decide)⟩)
  ·replace H := iteF hb157 H
   refine HT_false (congrArg Value.bool hb157) ?_
   refine HT_seq_k ?_
   intro K161 hK161
   refine HT_region ?_
   refine HL_cons rfl ?_
   refine o_bin rfl rfl rfl ?_
   try dsimp only [putL, setL, evL, getL]
   refine HL_cons rfl ?_
   refine o_assign ?_
   try dsimp only [putL, setL, evL, getL]
   refine HL_nil ?_
   refine hK161 _ _ ?_
   rcases Bool.eq_false_or_eq_true (p3_0 == 2) with hb162 | hb162
   ·replace H := iteT hb162 H
    refine HT_true (congrArg Value.bool hb162) ?_
    refine HT_seq_k ?_
    intro K163 hK163
    refine HX_draw hMix ?_
    refine HX_lim (R := fun _ => True) (k := 0) (fun s' => Gro s2 s') 19 ?_
    have hR := Gro.refl s2
    have hH0 := hH
    refine HK_readP 3 (v := .int .i64 p6) rfl (by kernel_rfl) (fun c l s h => hQp c l s h) rfl (fun s' K hK => ?_) rfl rfl (fun _ => hR) ?_
    ·refine o_move ?_
     exact hK
    try dsimp only [putL, setL, evL, getL]
    refine HK_readP 4 (v := .int .i64 p5) rfl (by kernel_rfl) (fun c l s h => hQp c l s h) rfl (fun s' K hK => ?_) rfl rfl (fun _ => hR) ?_
    ·refine o_move ?_
     exact hK
    try dsimp only [putL, setL, evL, getL]
    refine HK_readP 5 (v := .int .i64 (IntKind.i64.wrap (p5 + 1))) rfl (by kernel_rfl) (fun c l s h => hQp c l s h) rfl (fun s' K hK => ?_) rfl rfl (fun _ => hR) ?_
    ·refine o_bin rfl rfl rfl ?_
     exact hK
    try dsimp only [putL, setL, evL, getL]
    refine HK_readP 6 (v := .bool (p6 == (IntKind.i64.wrap (p5 + 1)))) rfl (by kernel_rfl) (fun c l s h => hQp c l s h) rfl (fun s' K hK => ?_) rfl rfl (fun _ => hR) ?_
    ·refine o_bin rfl rfl rfl ?_
     exact hK
    try dsimp only [putL, setL, evL, getL]
    refine HK_readP 7 (v := .bool (p6 == (IntKind.i64.wrap (p5 + 1)))) rfl (by kernel_rfl) (fun c l s h => hQp c l s h) rfl (fun s' K hK => ?_) rfl rfl (fun _ => hR) ?_
    ·refine o_move ?_
     exact hK
    try dsimp only [putL, setL, evL, getL]
    rcases Bool.eq_false_or_eq_true (p6 == (IntKind.i64.wrap (p5 + 1))) with hb164 | hb164
    ·replace H := iteT hb164 H
     refine HK_readP 8 (v := .pointer (some ⟨b2, 0 + 1, none⟩)) rfl (by kernel_rfl) (fun c l s h => hQp c l s h) (wantT (j := 7) (b := true) (t := 36) (c := p6 == (IntKind.i64.wrap (p5 + 1))) rfl rfl rfl rfl hb164) (fun s' K hK => ?_) rfl rfl (fun _ => hR) ?_
     ·refine o_faddr' (ft := 24) (off := 1) rfl Try.underlying139 rfl tI24 (by decide) ?_
      exact hK
     try dsimp only [putL, setL, evL, getL]
     refine HK_read 9 (v := .slice A3_1p p3_1.length c3_1p) rfl (by kernel_rfl) (fun c l s h => hQp c l s h) (wantT (j := 7) (b := true) (t := 36) (c := p6 == (IntKind.i64.wrap (p5 + 1))) rfl rfl rfl rfl hb164) (fun s' hR' K hK => ?_) rfl rfl hR ?_
     ·refine o_load' rfl Try.underlying24 rfl (has_gro hR' (hH0.hasv 0 rfl rfl)) ?_
      exact hK
     try dsimp only [putL, setL, evL, getL]
     refine HK_readP 10 (v := .slice A4p p4.length c4p) rfl (by kernel_rfl) (fun c l s h => hQp c l s h) (wantT (j := 7) (b := true) (t := 36) (c := p6 == (IntKind.i64.wrap (p5 + 1))) rfl rfl rfl rfl hb164) (fun s' K hK => ?_) rfl rfl (fun _ => hR) ?_
     ·refine o_move ?_
      exact hK
     try dsimp only [putL, setL, evL, getL]
     refine HK_readP 11 (v := .int .i64 p5) rfl (by kernel_rfl) (fun c l s h => hQp c l s h) (wantT (j := 7) (b := true) (t := 36) (c := p6 == (IntKind.i64.wrap (p5 + 1))) rfl rfl rfl rfl hb164) (fun s' K hK => ?_) rfl rfl (fun _ => hR) ?_
     ·refine o_move ?_
      exact hK
     try dsimp only [putL, setL, evL, getL]
     replace H := headE H
     obtain ⟨u165, hu165, H⟩ := H
     obtain ⟨b165, o165, cs165, hr165, hh165, hel165⟩ := Rd.elb HRp4 hu165
     obtain rfl := hr165
     refine HK_readP 12 (v := .pointer (some ⟨b165, o165, none⟩)) rfl (by kernel_rfl) (fun c l s h => hQp c l s h) (wantT (j := 7) (b := true) (t := 36) (c := p6 == (IntKind.i64.wrap (p5 + 1))) rfl rfl rfl rfl hb164) (fun s' K hK => ?_) rfl rfl (fun _ => hR) ?_
     ·refine hel165 s' rfl rfl Try.underlying24 tI3 ?_
      exact hK
     try dsimp only [putL, setL, evL, getL]
     refine HK_read 13 (v := .int .i64 u165) rfl (by kernel_rfl) (fun c l s h => hQp c l s h) (wantT (j := 7) (b := true) (t := 36) (c := p6 == (IntKind.i64.wrap (p5 + 1))) rfl rfl rfl rfl hb164) (fun s' hR' K hK => ?_) rfl rfl hR ?_
     ·refine o_load' rfl Try.underlying3 rfl ((hh165 (hH0.bs.mono.trans hR'.mono)) 0 _ rfl) ?_
      exact hK
     try dsimp only [putL, setL, evL, getL]
     refine HK_more [0, 14] (by kernel_rfl) rfl (fun _ => hR) ⟨⟨_, rfl, Or.inl ⟨rfl, ?_⟩⟩, ⟨_, rfl, Or.inl ⟨(wantT (j := 7) (b := true) (t := 36) (c := p6 == (IntKind.i64.wrap (p5 + 1))) rfl rfl rfl rfl hb164), ?_⟩⟩, trivial⟩
     ·skip
      refine o_mapH hH ?_
      intro b166 s166 hH' hG hF
      have hX166 := Gro.off hR hF
      replace hR := hR.trans hG
      replace hH : Hp sb s F0 s166 [Ck.ov b2 [.int .i64 p3_0, .slice A3_1p p3_1.length c3_1p] 139, Ck.ox b166 (.map #[] 0)] := hH'
      clear hH' hG hF
      try dsimp only [putL, setL, evL, getL]
      refine HK_more [1, 14] (by kernel_rfl) rfl (fun _ => hR) ⟨⟨_, rfl, Or.inl ⟨rfl, ?_⟩⟩, ⟨_, rfl, Or.inl ⟨(wantT (j := 7) (b := true) (t := 36) (c := p6 == (IntKind.i64.wrap (p5 + 1))) rfl rfl rfl rfl hb164), ?_⟩⟩, trivial⟩
      ·skip
       refine o_insH hH 1 rfl rfl rfl rfl rfl Try.underlying215 Try.underlying4 ?_
       intro s167 hH' hG
       replace hR := hG _ hR hX166
       replace hH : Hp sb s F0 s167 [Ck.ov b2 [.int .i64 p3_0, .slice A3_1p p3_1.length c3_1p] 139, Ck.ox b166 (.map #[⟨.bool true, .int .i64 1, 0⟩] 1)] := hH'
       clear hH' hG
       try dsimp only [putL, setL, evL, getL]
       refine HK_readP 2 (v := .map (some b166)) rfl (by kernel_rfl) (fun c l s h => hQp c l s h) rfl (fun s' K hK => ?_) rfl rfl (fun _ => hR) ?_
       ·refine o_move ?_
        exact hK
       try dsimp only [putL, setL, evL, getL]
       refine HK_more [14] (by kernel_rfl) rfl (fun _ => hR) ⟨⟨_, rfl, Or.inl ⟨(wantT (j := 7) (b := true) (t := 36) (c := p6 == (IntKind.i64.wrap (p5 + 1))) rfl rfl rfl rfl hb164), ?_⟩⟩, trivial⟩
       replace H := headE H
       obtain ⟨u168, hu168, H⟩ := H
       skip
       refine o_call (args := #[.slice A3_1p p3_1.length c3_1p, .int .i64 u165]) Try.func205 rfl rfl rfl (impl_inSet.ok sb s167 no A3_1p c3_1p p3_1 u165 HRp3_1 (Hp.own hH.bs) _ hu168) ?_
       rintro _ s168 ⟨rfl, hD⟩
       replace hR := hR.trans hD.gro
       replace hH := hH.back0 hD (Up.refl _ _ _)
       clear hD
       dsimp only [addC, setC, rmC, selC, getC] at hH
       try dsimp only [putL, setL, evL, getL]
       refine HK_readP 15 (v := .bool u168) rfl (by kernel_rfl) (fun c l s h => hQp c l s h) rfl (fun s' K hK => ?_) rfl rfl (fun _ => hR) ?_
       ·refine o_pickT rfl hb164 ?_
        exact hK
       try dsimp only [putL, setL, evL, getL]
       refine HK_more [16] (by kernel_rfl) rfl (fun _ => hR) ⟨⟨_, rfl, Or.inl ⟨rfl, ?_⟩⟩, trivial⟩
       skip
       refine o_lkI (kb := u168) (vi := 1) (zi := 0) hH 1 rfl rfl rfl Try.underlying215 Try.underlying4 tI3 ?_
       try dsimp only [putL, setL, evL, getL]
       refine HK_more [17] (by kernel_rfl) rfl (fun _ => hR) ⟨⟨_, rfl, Or.inl ⟨rfl, ?_⟩⟩, trivial⟩
       skip
       refine o_assign ?_
       try dsimp only [putL, setL, evL, getL]
       refine HK_done (fun _ => hR) (by kernel_rfl) ?_
       refine hK163 _ _ ?_
       refine HT_ret ?_
       replace H := escH (fun z hz => hG6 _ hz) H
       exact hQr _ _ [.int .i64 (if u168 = true then 1 else 0)] ⟨rfl, trivial⟩ (retH (fun r => impl_countOf.post sb s F0 r _ _) (show some _ = some r from H) ⟨rfl, hH.sel [] (by decide)⟩)
      ·replace H := headE H
       obtain ⟨u169, hu169, H⟩ := H
       skip
       refine o_call (args := #[.slice A3_1p p3_1.length c3_1p, .int .i64 u165]) Try.func205 rfl rfl rfl (impl_inSet.ok sb s166 no A3_1p c3_1p p3_1 u165 HRp3_1 (Hp.own hH.bs) _ hu169) ?_
       rintro _ s169 ⟨rfl, hD⟩
       replace hR := hR.trans hD.gro
       replace hH := hH.back0 hD (Up.refl _ _ _)
       clear hD
       dsimp only [addC, setC, rmC, selC, getC] at hH
       try dsimp only [putL, setL, evL, getL]
       refine HK_readP 15 (v := .bool u169) rfl (by kernel_rfl) (fun c l s h => hQp c l s h) rfl (fun s' K hK => ?_) rfl rfl (fun _ => hR) ?_
       ·refine o_pickT rfl hb164 ?_
        exact hK
       try dsimp only [putL, setL, evL, getL]
       refine HK_more [1] (by kernel_rfl) rfl (fun _ => hR) ⟨⟨_, rfl, Or.inl ⟨rfl, ?_⟩⟩, trivial⟩
       skip
       refine o_insH hH 1 rfl rfl rfl rfl rfl Try.underlying215 Try.underlying4 ?_
       intro s170 hH' hG
       replace hR := hG _ hR hX166
       replace hH : Hp sb s F0 s170 [Ck.ov b2 [.int .i64 p3_0, .slice A3_1p p3_1.length c3_1p] 139, Ck.ox b166 (.map #[⟨.bool true, .int .i64 1, 0⟩] 1)] := hH'
       clear hH' hG
       try dsimp only [putL, setL, evL, getL]
       refine HK_readP 2 (v := .map (some b166)) rfl (by kernel_rfl) (fun c l s h => hQp c l s h) rfl (fun s' K hK => ?_) rfl rfl (fun _ => hR) ?_
       ·refine o_move ?_
        exact hK
       try dsimp only [putL, setL, evL, getL]
       refine HK_more [16] (by kernel_rfl) rfl (fun _ => hR) ⟨⟨_, rfl, Or.inl ⟨rfl, ?_⟩⟩, trivial⟩
       skip
       refine o_lkI (kb := u169) (vi := 1) (zi := 0) hH 1 rfl rfl rfl Try.underlying215 Try.underlying4 tI3 ?_
       try dsimp only [putL, setL, evL, getL]
       refine HK_more [17] (by kernel_rfl) rfl (fun _ => hR) ⟨⟨_, rfl, Or.inl ⟨rfl, ?_⟩⟩, trivial⟩
       skip
       refine o_assign ?_
       try dsimp only [putL, setL, evL, getL]
       refine HK_done (fun _ => hR) (by kernel_rfl) ?_
       refine hK163 _ _ ?_
       refine HT_ret ?_
       replace H := escH (fun z hz => hG6 _ hz) H
       exact hQr _ _ [.int .i64 (if u169 = true then 1 else 0)] ⟨rfl, trivial⟩ (retH (fun r => impl_countOf.post sb s F0 r _ _) (show some _ = some r from H) ⟨rfl, hH.sel [] (by decide)⟩)
     ·replace H := headE H
      obtain ⟨u171, hu171, H⟩ := H
      skip
      refine o_call (args := #[.slice A3_1p p3_1.length c3_1p, .int .i64 u165]) Try.func205 rfl rfl rfl (impl_inSet.ok sb s2 no A3_1p c3_1p p3_1 u165 HRp3_1 (Hp.own hH.bs) _ hu171) ?_
      rintro _ s171 ⟨rfl, hD⟩
      replace hR := hR.trans hD.gro
      replace hH := hH.back0 hD (Up.refl _ _ _)
      clear hD
      dsimp only [addC, setC, rmC, selC, getC] at hH
      try dsimp only [putL, setL, evL, getL]
      refine HK_readP 15 (v := .bool u171) rfl (by kernel_rfl) (fun c l s h => hQp c l s h) rfl (fun s' K hK => ?_) rfl rfl (fun _ => hR) ?_
      ·refine o_pickT rfl hb164 ?_
       exact hK
      try dsimp only [putL, setL, evL, getL]
      refine HK_more [0] (by kernel_rfl) rfl (fun _ => hR) ⟨⟨_, rfl, Or.inl ⟨rfl, ?_⟩⟩, trivial⟩
      skip
      refine o_mapH hH ?_
      intro b172 s172 hH' hG hF
      have hX172 := Gro.off hR hF
      replace hR := hR.trans hG
      replace hH : Hp sb s F0 s172 [Ck.ov b2 [.int .i64 p3_0, .slice A3_1p p3_1.length c3_1p] 139, Ck.ox b172 (.map #[] 0)] := hH'
      clear hH' hG hF
      try dsimp only [putL, setL, evL, getL]
      refine HK_more [1] (by kernel_rfl) rfl (fun _ => hR) ⟨⟨_, rfl, Or.inl ⟨rfl, ?_⟩⟩, trivial⟩
      skip
      refine o_insH hH 1 rfl rfl rfl rfl rfl Try.underlying215 Try.underlying4 ?_
      intro s173 hH' hG
      replace hR := hG _ hR hX172
      replace hH : Hp sb s F0 s173 [Ck.ov b2 [.int .i64 p3_0, .slice A3_1p p3_1.length c3_1p] 139, Ck.ox b172 (.map #[⟨.bool true, .int .i64 1, 0⟩] 1)] := hH'
      clear hH' hG
      try dsimp only [putL, setL, evL, getL]
      refine HK_readP 2 (v := .map (some b172)) rfl (by kernel_rfl) (fun c l s h => hQp c l s h) rfl (fun s' K hK => ?_) rfl rfl (fun _ => hR) ?_
      ·refine o_move ?_
       exact hK
      try dsimp only [putL, setL, evL, getL]
      refine HK_more [16] (by kernel_rfl) rfl (fun _ => hR) ⟨⟨_, rfl, Or.inl ⟨rfl, ?_⟩⟩, trivial⟩
      skip
      refine o_lkI (kb := u171) (vi := 1) (zi := 0) hH 1 rfl rfl rfl Try.underlying215 Try.underlying4 tI3 ?_
      try dsimp only [putL, setL, evL, getL]
      refine HK_more [17] (by kernel_rfl) rfl (fun _ => hR) ⟨⟨_, rfl, Or.inl ⟨rfl, ?_⟩⟩, trivial⟩
      skip
      refine o_assign ?_
      try dsimp only [putL, setL, evL, getL]
      refine HK_done (fun _ => hR) (by kernel_rfl) ?_
      refine hK163 _ _ ?_
      refine HT_ret ?_
      replace H := escH (fun z hz => hG6 _ hz) H
      exact hQr _ _ [.int .i64 (if u171 = true then 1 else 0)] ⟨rfl, trivial⟩ (retH (fun r => impl_countOf.post sb s F0 r _ _) (show some _ = some r from H) ⟨rfl, hH.sel [] (by decide)⟩)
    ·replace H := iteF hb164 H
     refine HK_passP 8 rfl (by kernel_rfl) (fun c l s h => hQp c l s h) ?_ (fun _ => hR) ?_
     ·exact wantF (j := 7) (b := true) (t := 36) (c := p6 == (IntKind.i64.wrap (p5 + 1))) rfl rfl rfl rfl hb164
     try dsimp only [putL, setL, evL, getL]
     refine HK_passP 9 rfl (by kernel_rfl) (fun c l s h => hQp c l s h) ?_ (fun _ => hR) ?_
     ·exact wantF (j := 7) (b := true) (t := 36) (c := p6 == (IntKind.i64.wrap (p5 + 1))) rfl rfl rfl rfl hb164
     try dsimp only [putL, setL, evL, getL]
     refine HK_passP 10 rfl (by kernel_rfl) (fun c l s h => hQp c l s h) ?_ (fun _ => hR) ?_
     ·exact wantF (j := 7) (b := true) (t := 36) (c := p6 == (IntKind.i64.wrap (p5 + 1))) rfl rfl rfl rfl hb164
     try dsimp only [putL, setL, evL, getL]
     refine HK_passP 11 rfl (by kernel_rfl) (fun c l s h => hQp c l s h) ?_ (fun _ => hR) ?_
     ·exact wantF (j := 7) (b := true) (t := 36) (c := p6 == (IntKind.i64.wrap (p5 + 1))) rfl rfl rfl rfl hb164
     try dsimp only [putL, setL, evL, getL]
     refine HK_passP 12 rfl (by kernel_rfl) (fun c l s h => hQp c l s h) ?_ (fun _ => hR) ?_
     ·exact wantF (j := 7) (b := true) (t := 36) (c := p6 == (IntKind.i64.wrap (p5 + 1))) rfl rfl rfl rfl hb164
     try dsimp only [putL, setL, evL, getL]
     refine HK_passP 13 rfl (by kernel_rfl) (fun c l s h => hQp c l s h) ?_ (fun _ => hR) ?_
     ·exact wantF (j := 7) (b := true) (t := 36) (c := p6 == (IntKind.i64.wrap (p5 + 1))) rfl rfl rfl rfl hb164
     try dsimp only [putL, setL, evL, getL]
     refine HK_passP 14 rfl (by kernel_rfl) (fun c l s h => hQp c l s h) ?_ (fun _ => hR) ?_
     ·exact wantF (j := 7) (b := true) (t := 36) (c := p6 == (IntKind.i64.wrap (p5 + 1))) rfl rfl rfl rfl hb164
     try dsimp only [putL, setL, evL, getL]
     refine HK_readP 15 (v := .bool false) rfl (by kernel_rfl) (fun c l s h => hQp c l s h) rfl (fun s' K hK => ?_) rfl rfl (fun _ => hR) ?_
     ·refine o_pickF rfl hb164 ?_
      exact hK
     try dsimp only [putL, setL, evL, getL]
     refine HK_more [0] (by kernel_rfl) rfl (fun _ => hR) ⟨⟨_, rfl, Or.inl ⟨rfl, ?_⟩⟩, trivial⟩
     skip
     refine o_mapH hH ?_
     intro b174 s174 hH' hG hF
     have hX174 := Gro.off hR hF
     replace hR := hR.trans hG
     replace hH : Hp sb s F0 s174 [Ck.ov b2 [.int .i64 p3_0, .slice A3_1p p3_1.length c3_1p] 139, Ck.ox b174 (.map #[] 0)] := hH'
     clear hH' hG hF
     try dsimp only [putL, setL, evL, getL]
     refine HK_more [1] (by kernel_rfl) rfl (fun _ => hR) ⟨⟨_, rfl, Or.inl ⟨rfl, ?_⟩⟩, trivial⟩
     skip
     refine o_insH hH 1 rfl rfl rfl rfl rfl Try.underlying215 Try.underlying4 ?_
     intro s175 hH' hG
     replace hR := hG _ hR hX174
     replace hH : Hp sb s F0 s175 [Ck.ov b2 [.int .i64 p3_0, .slice A3_1p p3_1.length c3_1p] 139, Ck.ox b174 (.map #[⟨.bool true, .int .i64 1, 0⟩] 1)] := hH'
     clear hH' hG
     try dsimp only [putL, setL, evL, getL]
     refine HK_readP 2 (v := .map (some b174)) rfl (by kernel_rfl) (fun c l s h => hQp c l s h) rfl (fun s' K hK => ?_) rfl rfl (fun _ => hR) ?_
     ·refine o_move ?_
      exact hK
     try dsimp only [putL, setL, evL, getL]
     refine HK_more [16] (by kernel_rfl) rfl (fun _ => hR) ⟨⟨_, rfl, Or.inl ⟨rfl, ?_⟩⟩, trivial⟩
     skip
     refine o_lkI (kb := false) (vi := 1) (zi := 0) hH 1 rfl rfl rfl Try.underlying215 Try.underlying4 tI3 ?_
     try dsimp only [putL, setL, evL, getL]
     refine HK_more [17] (by kernel_rfl) rfl (fun _ => hR) ⟨⟨_, rfl, Or.inl ⟨rfl, ?_⟩⟩, trivial⟩
     skip
     refine o_assign ?_
     try dsimp only [putL, setL, evL, getL]
     refine HK_done (fun _ => hR) (by kernel_rfl) ?_
     refine hK163 _ _ ?_
     refine HT_ret ?_
     replace H := escH (fun z hz => hG6 _ hz) H
     exact hQr _ _ [.int .i64 (if false = true then 1 else 0)] ⟨rfl, trivial⟩ (retH (fun r => impl_countOf.post sb s F0 r _ _) (show some _ = some r from H) ⟨rfl, hH.sel [] (by decide)⟩)
   ·replace H := iteF hb162 H
    refine HT_false (congrArg Value.bool hb162) ?_
    refine HT_seq_k ?_
    intro K176 hK176
    refine HT_region ?_
    refine HL_cons rfl ?_
    refine o_bin rfl rfl rfl ?_
    try dsimp only [putL, setL, evL, getL]
    refine HL_cons rfl ?_
    refine o_assign ?_
    try dsimp only [putL, setL, evL, getL]
    refine HL_nil ?_
    refine hK176 _ _ ?_
    rcases Bool.eq_false_or_eq_true (p3_0 == 4) with hb177 | hb177
    ·replace H := iteT hb177 H
     refine HT_true (congrArg Value.bool hb177) ?_
     refine HT_seq_k ?_
     intro K178 hK178
     refine HX_draw hMix ?_
     refine HX_lim (R := fun _ => True) (k := 0) (fun s' => Gro s2 s') 27 ?_
     have hR := Gro.refl s2
     have hH0 := hH
     refine HK_readP 0 (v := .slice A0p p0.length c0p) rfl (by kernel_rfl) (fun c l s h => hQp c l s h) rfl (fun s' K hK => ?_) rfl rfl (fun _ => hR) ?_
     ·refine o_move ?_
      exact hK
     try dsimp only [putL, setL, evL, getL]
     refine HK_readP 1 (v := .slice A1p p1.length c1p) rfl (by kernel_rfl) (fun c l s h => hQp c l s h) rfl (fun s' K hK => ?_) rfl rfl (fun _ => hR) ?_
     ·refine o_move ?_
      exact hK
     try dsimp only [putL, setL, evL, getL]
     replace H := headE H
     obtain ⟨u179, hu179, H⟩ := H
     obtain ⟨b179, o179, cs179, hr179, hh179, hel179⟩ := Rd.elb HRp1 hu179
     obtain rfl := hr179
     refine HK_readP 2 (v := .pointer (some ⟨b179, o179, none⟩)) rfl (by kernel_rfl) (fun c l s h => hQp c l s h) rfl (fun s' K hK => ?_) rfl rfl (fun _ => hR) ?_
     ·refine hel179 s' rfl rfl Try.underlying24 tI3 ?_
      exact hK
     try dsimp only [putL, setL, evL, getL]
     refine HK_read 3 (v := .int .i64 u179) rfl (by kernel_rfl) (fun c l s h => hQp c l s h) rfl (fun s' hR' K hK => ?_) rfl rfl hR ?_
     ·refine o_load' rfl Try.underlying3 rfl ((hh179 (hH0.bs.mono.trans hR'.mono)) 0 _ rfl) ?_
      exact hK
     try dsimp only [putL, setL, evL, getL]
     replace H := headE H
     obtain ⟨u180, hu180, H⟩ := H
     obtain ⟨b180, o180, cs180, hr180, hh180, hel180⟩ := Rd.elb HRp0 hu180
     obtain ⟨A181, c181, rfl, D181⟩ := hr180
     refine HK_readP 4 (v := .pointer (some ⟨b180, o180, none⟩)) rfl (by kernel_rfl) (fun c l s h => hQp c l s h) rfl (fun s' K hK => ?_) rfl rfl (fun _ => hR) ?_
     ·refine hel180 s' rfl rfl Try.underlying156 tI105 ?_
      exact hK
     try dsimp only [putL, setL, evL, getL]
     refine HK_read 5 (v := .slice A181 u180.length c181) rfl (by kernel_rfl) (fun c l s h => hQp c l s h) rfl (fun s' hR' K hK => ?_) rfl rfl hR ?_
     ·refine o_load' rfl Try.underlying105 rfl ((hh180 (hH0.bs.mono.trans hR'.mono)) 0 _ rfl) ?_
      exact hK
     try dsimp only [putL, setL, evL, getL]
     refine HK_readP 6 (v := .int .i64 p5) rfl (by kernel_rfl) (fun c l s h => hQp c l s h) rfl (fun s' K hK => ?_) rfl rfl (fun _ => hR) ?_
     ·refine o_move ?_
      exact hK
     try dsimp only [putL, setL, evL, getL]
     replace H := headE H
     obtain ⟨u182, hu182, H⟩ := H
     obtain ⟨b182, o182, cs182, hr182, hh182, hel182⟩ := Rd.elb D181 hu182
     obtain ⟨A183, c183, rfl, D183⟩ := hr182
     refine HK_readP 7 (v := .pointer (some ⟨b182, o182, none⟩)) rfl (by kernel_rfl) (fun c l s h => hQp c l s h) rfl (fun s' K hK => ?_) rfl rfl (fun _ => hR) ?_
     ·refine hel182 s' rfl rfl Try.underlying105 tI24 ?_
      exact hK
     try dsimp only [putL, setL, evL, getL]
     refine HK_read 8 (v := .slice A183 u182.length c183) rfl (by kernel_rfl) (fun c l s h => hQp c l s h) rfl (fun s' hR' K hK => ?_) rfl rfl hR ?_
     ·refine o_load' rfl Try.underlying24 rfl ((hh182 (hH0.bs.mono.trans hR'.mono)) 0 _ rfl) ?_
      exact hK
     try dsimp only [putL, setL, evL, getL]
     refine HK_readP 9 (v := .int .i64 p6) rfl (by kernel_rfl) (fun c l s h => hQp c l s h) rfl (fun s' K hK => ?_) rfl rfl (fun _ => hR) ?_
     ·refine o_move ?_
      exact hK
     try dsimp only [putL, setL, evL, getL]
     replace H := headE H
     obtain ⟨u184, hu184, H⟩ := H
     obtain ⟨b184, o184, cs184, hr184, hh184, hel184⟩ := Rd.elb D183 hu184
     obtain rfl := hr184
     refine HK_readP 10 (v := .pointer (some ⟨b184, o184, none⟩)) rfl (by kernel_rfl) (fun c l s h => hQp c l s h) rfl (fun s' K hK => ?_) rfl rfl (fun _ => hR) ?_
     ·refine hel184 s' rfl rfl Try.underlying24 tI3 ?_
      exact hK
     try dsimp only [putL, setL, evL, getL]
     refine HK_read 11 (v := .int .i64 u184) rfl (by kernel_rfl) (fun c l s h => hQp c l s h) rfl (fun s' hR' K hK => ?_) rfl rfl hR ?_
     ·refine o_load' rfl Try.underlying3 rfl ((hh184 (hH0.bs.mono.trans hR'.mono)) 0 _ rfl) ?_
      exact hK
     try dsimp only [putL, setL, evL, getL]
     refine HK_readP 12 (v := .slice A0p p0.length c0p) rfl (by kernel_rfl) (fun c l s h => hQp c l s h) rfl (fun s' K hK => ?_) rfl rfl (fun _ => hR) ?_
     ·refine o_move ?_
      exact hK
     try dsimp only [putL, setL, evL, getL]
     refine HK_readP 13 (v := .slice A1p p1.length c1p) rfl (by kernel_rfl) (fun c l s h => hQp c l s h) rfl (fun s' K hK => ?_) rfl rfl (fun _ => hR) ?_
     ·refine o_move ?_
      exact hK
     try dsimp only [putL, setL, evL, getL]
     replace H := headE H
     obtain ⟨u185, hu185, H⟩ := H
     obtain ⟨b185, o185, cs185, hr185, hh185, hel185⟩ := Rd.elb HRp1 hu185
     obtain rfl := hr185
     refine HK_readP 14 (v := .pointer (some ⟨b185, o185, none⟩)) rfl (by kernel_rfl) (fun c l s h => hQp c l s h) rfl (fun s' K hK => ?_) rfl rfl (fun _ => hR) ?_
     ·refine hel185 s' rfl rfl Try.underlying24 tI3 ?_
      exact hK
     try dsimp only [putL, setL, evL, getL]
     refine HK_read 15 (v := .int .i64 u185) rfl (by kernel_rfl) (fun c l s h => hQp c l s h) rfl (fun s' hR' K hK => ?_) rfl rfl hR ?_
     ·refine o_load' rfl Try.underlying3 rfl ((hh185 (hH0.bs.mono.trans hR'.mono)) 0 _ rfl) ?_
      exact hK
     try dsimp only [putL, setL, evL, getL]
     replace H := headE H
     obtain ⟨u186, hu186, H⟩ := H
     obtain ⟨b186, o186, cs186, hr186, hh186, hel186⟩ := Rd.elb HRp0 hu186
     obtain ⟨A187, c187, rfl, D187⟩ := hr186
     refine HK_readP 16 (v := .pointer (some ⟨b186, o186, none⟩)) rfl (by kernel_rfl) (fun c l s h => hQp c l s h) rfl (fun s' K hK => ?_) rfl rfl (fun _ => hR) ?_
     ·refine hel186 s' rfl rfl Try.underlying156 tI105 ?_
      exact hK
     try dsimp only [putL, setL, evL, getL]
     refine HK_read 17 (v := .slice A187 u186.length c187) rfl (by kernel_rfl) (fun c l s h => hQp c l s h) rfl (fun s' hR' K hK => ?_) rfl rfl hR ?_
     ·refine o_load' rfl Try.underlying105 rfl ((hh186 (hH0.bs.mono.trans hR'.mono)) 0 _ rfl) ?_
      exact hK
     try dsimp only [putL, setL, evL, getL]
     refine HK_readP 18 (v := .int .i64 p5) rfl (by kernel_rfl) (fun c l s h => hQp c l s h) rfl (fun s' K hK => ?_) rfl rfl (fun _ => hR) ?_
     ·refine o_move ?_
      exact hK
     try dsimp only [putL, setL, evL, getL]
     replace H := headE H
     obtain ⟨u188, hu188, H⟩ := H
     obtain ⟨b188, o188, cs188, hr188, hh188, hel188⟩ := Rd.elb D187 hu188
     obtain ⟨A189, c189, rfl, D189⟩ := hr188
     refine HK_readP 19 (v := .pointer (some ⟨b188, o188, none⟩)) rfl (by kernel_rfl) (fun c l s h => hQp c l s h) rfl (fun s' K hK => ?_) rfl rfl (fun _ => hR) ?_
     ·refine hel188 s' rfl rfl Try.underlying105 tI24 ?_
      exact hK
     try dsimp only [putL, setL, evL, getL]
     refine HK_read 20 (v := .slice A189 u188.length c189) rfl (by kernel_rfl) (fun c l s h => hQp c l s h) rfl (fun s' hR' K hK => ?_) rfl rfl hR ?_
     ·refine o_load' rfl Try.underlying24 rfl ((hh188 (hH0.bs.mono.trans hR'.mono)) 0 _ rfl) ?_
      exact hK
     try dsimp only [putL, setL, evL, getL]
     refine HK_readP 21 (v := .int .i64 p6) rfl (by kernel_rfl) (fun c l s h => hQp c l s h) rfl (fun s' K hK => ?_) rfl rfl (fun _ => hR) ?_
     ·refine o_move ?_
      exact hK
     try dsimp only [putL, setL, evL, getL]
     replace H := headE H
     obtain ⟨u190, hu190, H⟩ := H
     obtain ⟨b190, o190, cs190, hr190, hh190, hel190⟩ := Rd.elb D189 hu190
     obtain rfl := hr190
     refine HK_readP 22 (v := .pointer (some ⟨b190, o190, none⟩)) rfl (by kernel_rfl) (fun c l s h => hQp c l s h) rfl (fun s' K hK => ?_) rfl rfl (fun _ => hR) ?_
     ·refine hel190 s' rfl rfl Try.underlying24 tI3 ?_
      exact hK
     try dsimp only [putL, setL, evL, getL]
     refine HK_read 23 (v := .int .i64 u190) rfl (by kernel_rfl) (fun c l s h => hQp c l s h) rfl (fun s' hR' K hK => ?_) rfl rfl hR ?_
     ·refine o_load' rfl Try.underlying3 rfl ((hh190 (hH0.bs.mono.trans hR'.mono)) 0 _ rfl) ?_
      exact hK
     try dsimp only [putL, setL, evL, getL]
     refine HK_readP 24 (v := .int .i64 (IntKind.i64.wrap (u184 + u190))) rfl (by kernel_rfl) (fun c l s h => hQp c l s h) rfl (fun s' K hK => ?_) rfl rfl (fun _ => hR) ?_
     ·refine o_bin rfl rfl rfl ?_
      exact hK
     try dsimp only [putL, setL, evL, getL]
     refine HK_more [25] (by kernel_rfl) rfl (fun _ => hR) ⟨⟨_, rfl, Or.inl ⟨rfl, ?_⟩⟩, trivial⟩
     skip
     refine o_assign ?_
     try dsimp only [putL, setL, evL, getL]
     refine HK_done (fun _ => hR) (by kernel_rfl) ?_
     refine hK178 _ _ ?_
     refine HT_ret ?_
     replace H := escH (fun z hz => hG6 _ hz) H
     exact hQr _ _ [.int .i64 (IntKind.i64.wrap (u184 + u190))] ⟨rfl, trivial⟩ (retH (fun r => impl_countOf.post sb s F0 r _ _) (show some _ = some r from H) ⟨rfl, hH.sel [] (by decide)⟩)
    ·replace H := iteF hb177 H
     refine HT_false (congrArg Value.bool hb177) ?_
     refine HT_seq_k ?_
     intro K191 hK191
     refine HT_region ?_
     refine HL_cons rfl ?_
     refine o_bin rfl rfl rfl ?_
     try dsimp only [putL, setL, evL, getL]
     refine HL_cons rfl ?_
     refine o_assign ?_
     try dsimp only [putL, setL, evL, getL]
     refine HL_nil ?_
     refine hK191 _ _ ?_
     rcases Bool.eq_false_or_eq_true (p3_0 == 3) with hb192 | hb192
     ·replace H := iteT hb192 H
      refine HT_true (congrArg Value.bool hb192) ?_
      refine HT_seq_k ?_
      intro K193 hK193
      refine HT_seq_k ?_
      intro K194 hK194
      refine HT_region ?_
      refine HL_cons rfl ?_
      refine o_move ?_
      try dsimp only [putL, setL, evL, getL]
      refine HL_cons rfl ?_
      refine o_assign ?_
      try dsimp only [putL, setL, evL, getL]
      refine HL_nil ?_
      refine hK194 _ _ ?_
      refine joinH H fun G195 hG195 H => ?_
      refine HT_toK (fun l' s' => ∃ (x249 : Int), G195 x249 = some r ∧ l' = [.slice A0p p0.length c0p, .slice A1p p1.length c1p, .int .i64 p2, .agg #[.int .i64 p3_0, .slice A3_1p p3_1.length c3_1p], .slice A4p p4.length c4p, .int .i64 p5, .int .i64 p6, undef, undef, undef, .pointer (some ⟨b2, 0, none⟩), undef, undef, undef, .int .i64 0, .int .i64 x249, getL l' 16, undef, .pointer (some ⟨b2, 0 + 0, none⟩), .int .i64 p3_0, .bool (p3_0 == 1), .bool (p3_0 == 1), undef, undef, undef, undef, undef, undef, .bool (p3_0 == 2), .bool (p3_0 == 2), undef, undef, undef, undef, undef, undef, undef, undef, undef, undef, undef, undef, undef, undef, undef, undef, .bool (p3_0 == 4), .bool (p3_0 == 4), undef, undef, undef, undef, undef, undef, undef, undef, undef, undef, undef, undef, undef, undef, undef, undef, undef, undef, undef, undef, undef, undef, undef, undef, undef, .bool (p3_0 == 3), .bool (p3_0 == 3), .int .i64 p5, getL l' 76, getL l' 77, getL l' 78, getL l' 79, getL l' 80, getL l' 81, getL l' 82, getL l' 83, getL l' 84, getL l' 85, getL l' 86, getL l' 87, getL l' 88, getL l' 89, getL l' 90, getL l' 91, getL l' 92, getL l' 93, getL l' 94, getL l' 95, getL l' 96, getL l' 97, getL l' 98, getL l' 99, getL l' 100, getL l' 101, getL l' 102, getL l' 103, getL l' 104, getL l' 105, getL l' 106, getL l' 107, getL l' 108, undef, undef, undef, undef, undef, undef, undef, undef, undef, undef, undef, undef, undef, undef, undef, undef, undef, undef, undef, undef, undef, undef, undef, undef, undef, undef, undef, undef, undef, undef, undef, undef, undef, undef, undef, undef, undef, undef] ∧ Hp sb s F0 s' []) ?_ ?_
      ·intro K195 hK195
       refine HT_block ?_
       refine HT_loopK (fun kf l' s' => ∃ (x266 : Int) (x267 : Int), (impl_countOf.l1 p0 p1 p5 p6 kf x266 x267).bind G195 = some r ∧ l' = [.slice A0p p0.length c0p, .slice A1p p1.length c1p, .int .i64 p2, .agg #[.int .i64 p3_0, .slice A3_1p p3_1.length c3_1p], .slice A4p p4.length c4p, .int .i64 p5, .int .i64 p6, undef, undef, undef, .pointer (some ⟨b2, 0, none⟩), undef, undef, undef, .int .i64 0, .int .i64 x266, .int .i64 x267, undef, .pointer (some ⟨b2, 0 + 0, none⟩), .int .i64 p3_0, .bool (p3_0 == 1), .bool (p3_0 == 1), undef, undef, undef, undef, undef, undef, .bool (p3_0 == 2), .bool (p3_0 == 2), undef, undef, undef, undef, undef, undef, undef, undef, undef, undef, undef, undef, undef, undef, undef, undef, .bool (p3_0 == 4), .bool (p3_0 == 4), undef, undef, undef, undef, undef, undef, undef, undef, undef, undef, undef, undef, undef, undef, undef, undef, undef, undef, undef, undef, undef, undef, undef, undef, undef, .bool (p3_0 == 3), .bool (p3_0 == 3), .int .i64 p5, getL l' 76, getL l' 77, getL l' 78, getL l' 79, getL l' 80, getL l' 81, getL l' 82, getL l' 83, getL l' 84, getL l' 85, getL l' 86, getL l' 87, getL l' 88, getL l' 89, getL l' 90, getL l' 91, getL l' 92, getL l' 93, getL l' 94, getL l' 95, getL l' 96, getL l' 97, getL l' 98, getL l' 99, getL l' 100, getL l' 101, getL l' 102, getL l' 103, getL l' 104, getL l' 105, getL l' 106, getL l' 107, getL l' 108, undef, undef, undef, undef, undef, undef, undef, undef, undef, undef, undef, undef, undef, undef, undef, undef, undef, undef, undef, undef, undef, undef, undef, undef, undef, undef, undef, undef, undef, undef, undef, undef, undef, undef, undef, undef, undef, undef] ∧ Hp sb s F0 s' []) (((p6) - (p5)).toNat + 2) ⟨0, p5, H, rfl, hH.sel [] (by decide)⟩ ?_
       rintro kf l' s286 ⟨x266, x267, H, hl, hH⟩ K286 hK286
       generalize getL l' 76 = j76, getL l' 77 = j77, getL l' 78 = j78, getL l' 79 = j79, getL l' 80 = j80, getL l' 81 = j81, getL l' 82 = j82, getL l' 83 = j83, getL l' 84 = j84, getL l' 85 = j85, getL l' 86 = j86, getL l' 87 = j87, getL l' 88 = j88, getL l' 89 = j89, getL l' 90 = j90, getL l' 91 = j91, getL l' 92 = j92, getL l' 93 = j93, getL l' 94 = j94, getL l' 95 = j95, getL l' 96 = j96, getL l' 97 = j97, getL l' 98 = j98, getL l' 99 = j99, getL l' 100 = j100, getL l' 101 = j101, getL l' 102 = j102, getL l' 103 = j103, getL l' 104 = j104, getL l' 105 = j105, getL l' 106 = j106, getL l' 107 = j107, getL l' 108 = j108 at hl
       subst hl
       cases kf with
       | zero => simp [impl_countOf.l1] at H
       | succ kf =>
        rw [impl_countOf.l1] at H
        refine HT_seq_k ?_
        intro K287 hK287
        refine HT_seq_k ?_
        intro K288 hK288
        refine HT_region ?_
        refine HL_cons rfl ?_
        refine o_move ?_
        try dsimp only [putL, setL, evL, getL]
        refine HL_cons rfl ?_
        refine o_move ?_
        try dsimp only [putL, setL, evL, getL]
        refine HL_cons rfl ?_
        refine o_bin rfl rfl rfl ?_
        try dsimp only [putL, setL, evL, getL]
        refine HL_nil ?_
        refine hK288 _ _ ?_
        rcases Bool.eq_false_or_eq_true (decide (x267 ≤ p6)) with hb289 | hb289
        ·replace H := iteT hb289 H
         refine HT_true (congrArg Value.bool hb289) ?_
         refine HT_skip ?_
         refine hK287 _ _ ?_
         refine HT_seq_k ?_
         intro K290 hK290
         refine HT_block ?_
         refine HX_draw hMix ?_
         refine HX_lim (R := fun _ => True) (k := 0) (fun s' => Gro s286 s') 30 ?_
         have hR := Gro.refl s286
         have hH0 := hH
         refine HK_readP 0 (v := .int .i64 x266) rfl (by kernel_rfl) (fun c l s h => hQp c l s h) rfl (fun s' K hK => ?_) rfl rfl (fun _ => hR) ?_
         ·refine o_move ?_
          exact hK
         try dsimp only [putL, setL, evL, getL]
         refine HK_readP 1 (v := .slice A0p p0.length c0p) rfl (by kernel_rfl) (fun c l s h => hQp c l s h) rfl (fun s' K hK => ?_) rfl rfl (fun _ => hR) ?_
         ·refine o_move ?_
          exact hK
         try dsimp only [putL, setL, evL, getL]
         refine HK_readP 2 (v := .slice A1p p1.length c1p) rfl (by kernel_rfl) (fun c l s h => hQp c l s h) rfl (fun s' K hK => ?_) rfl rfl (fun _ => hR) ?_
         ·refine o_move ?_
          exact hK
         try dsimp only [putL, setL, evL, getL]
         replace H := headE H
         obtain ⟨u291, hu291, H⟩ := H
         obtain ⟨b291, o291, cs291, hr291, hh291, hel291⟩ := Rd.elb HRp1 hu291
         obtain rfl := hr291
         refine HK_readP 3 (v := .pointer (some ⟨b291, o291, none⟩)) rfl (by kernel_rfl) (fun c l s h => hQp c l s h) rfl (fun s' K hK => ?_) rfl rfl (fun _ => hR) ?_
         ·refine hel291 s' rfl rfl Try.underlying24 tI3 ?_
          exact hK
         try dsimp only [putL, setL, evL, getL]
         refine HK_read 4 (v := .int .i64 u291) rfl (by kernel_rfl) (fun c l s h => hQp c l s h) rfl (fun s' hR' K hK => ?_) rfl rfl hR ?_
         ·refine o_load' rfl Try.underlying3 rfl ((hh291 (hH0.bs.mono.trans hR'.mono)) 0 _ rfl) ?_
          exact hK
         try dsimp only [putL, setL, evL, getL]
         replace H := headE H
         obtain ⟨u292, hu292, H⟩ := H
         obtain ⟨b292, o292, cs292, hr292, hh292, hel292⟩ := Rd.elb HRp0 hu292
         obtain ⟨A293, c293, rfl, D293⟩ := hr292
         refine HK_readP 5 (v := .pointer (some ⟨b292, o292, none⟩)) rfl (by kernel_rfl) (fun c l s h => hQp c l s h) rfl (fun s' K hK => ?_) rfl rfl (fun _ => hR) ?_
         ·refine hel292 s' rfl rfl Try.underlying156 tI105 ?_
          exact hK
         try dsimp only [putL, setL, evL, getL]
         refine HK_read 6 (v := .slice A293 u292.length c293) rfl (by kernel_rfl) (fun c l s h => hQp c l s h) rfl (fun s' hR' K hK => ?_) rfl rfl hR ?_
         ·refine o_load' rfl Try.underlying105 rfl ((hh292 (hH0.bs.mono.trans hR'.mono)) 0 _ rfl) ?_
          exact hK
         try dsimp only [putL, setL, evL, getL]
         refine HK_readP 7 (v := .int .i64 p5) rfl (by kernel_rfl) (fun c l s h => hQp c l s h) rfl (fun s' K hK => ?_) rfl rfl (fun _ => hR) ?_
         ·refine o_move ?_
          exact hK
         try dsimp only [putL, setL, evL, getL]
         replace H := headE H
         obtain ⟨u294, hu294, H⟩ := H
         obtain ⟨b294, o294, cs294, hr294, hh294, hel294⟩ := Rd.elb D293 hu294
         obtain ⟨A295, c295, rfl, D295⟩ := hr294
         refine HK_readP 8 (v := .pointer (some ⟨b294, o294, none⟩)) rfl (by kernel_rfl) (fun c l s h => hQp c l s h) rfl (fun s' K hK => ?_) rfl rfl (fun _ => hR) ?_
         ·refine hel294 s' rfl rfl Try.underlying105 tI24 ?_
          exact hK
         try dsimp only [putL, setL, evL, getL]
         refine HK_read 9 (v := .slice A295 u294.length c295) rfl (by kernel_rfl) (fun c l s h => hQp c l s h) rfl (fun s' hR' K hK => ?_) rfl rfl hR ?_
         ·refine o_load' rfl Try.underlying24 rfl ((hh294 (hH0.bs.mono.trans hR'.mono)) 0 _ rfl) ?_
          exact hK
         try dsimp only [putL, setL, evL, getL]
         refine HK_readP 10 (v := .int .i64 x267) rfl (by kernel_rfl) (fun c l s h => hQp c l s h) rfl (fun s' K hK => ?_) rfl rfl (fun _ => hR) ?_
         ·refine o_move ?_
          exact hK
         try dsimp only [putL, setL, evL, getL]
         replace H := headE H
         obtain ⟨u296, hu296, H⟩ := H
         obtain ⟨b296, o296, cs296, hr296, hh296, hel296⟩ := Rd.elb D295 hu296
         obtain rfl := hr296
         refine HK_readP 11 (v := .pointer (some ⟨b296, o296, none⟩)) rfl (by kernel_rfl) (fun c l s h => hQp c l s h) rfl (fun s' K hK => ?_) rfl rfl (fun _ => hR) ?_
         ·refine hel296 s' rfl rfl Try.underlying24 tI3 ?_
          exact hK
         try dsimp only [putL, setL, evL, getL]
         refine HK_read 12 (v := .int .i64 u296) rfl (by kernel_rfl) (fun c l s h => hQp c l s h) rfl (fun s' hR' K hK => ?_) rfl rfl hR ?_
         ·refine o_load' rfl Try.underlying3 rfl ((hh296 (hH0.bs.mono.trans hR'.mono)) 0 _ rfl) ?_
          exact hK
         try dsimp only [putL, setL, evL, getL]
         refine HK_readP 13 (v := .slice A0p p0.length c0p) rfl (by kernel_rfl) (fun c l s h => hQp c l s h) rfl (fun s' K hK => ?_) rfl rfl (fun _ => hR) ?_
         ·refine o_move ?_
          exact hK
         try dsimp only [putL, setL, evL, getL]
         refine HK_readP 14 (v := .slice A1p p1.length c1p) rfl (by kernel_rfl) (fun c l s h => hQp c l s h) rfl (fun s' K hK => ?_) rfl rfl (fun _ => hR) ?_
         ·refine o_move ?_
          exact hK
         try dsimp only [putL, setL, evL, getL]
         replace H := headE H
         obtain ⟨u297, hu297, H⟩ := H
         obtain ⟨b297, o297, cs297, hr297, hh297, hel297⟩ := Rd.elb HRp1 hu297
         obtain rfl := hr297
         refine HK_readP 15 (v := .pointer (some ⟨b297, o297, none⟩)) rfl (by kernel_rfl) (fun c l s h => hQp c l s h) rfl (fun s' K hK => ?_) rfl rfl (fun _ => hR) ?_
         ·refine hel297 s' rfl rfl Try.underlying24 tI3 ?_
          exact hK
         try dsimp only [putL, setL, evL, getL]
         refine HK_read 16 (v := .int .i64 u297) rfl (by kernel_rfl) (fun c l s h => hQp c l s h) rfl (fun s' hR' K hK => ?_) rfl rfl hR ?_
         ·refine o_load' rfl Try.underlying3 rfl ((hh297 (hH0.bs.mono.trans hR'.mono)) 0 _ rfl) ?_
          exact hK
         try dsimp only [putL, setL, evL, getL]
         replace H := headE H
         obtain ⟨u298, hu298, H⟩ := H
         obtain ⟨b298, o298, cs298, hr298, hh298, hel298⟩ := Rd.elb HRp0 hu298
         obtain ⟨A299, c299, rfl, D299⟩ := hr298
         refine HK_readP 17 (v := .pointer (some ⟨b298, o298, none⟩)) rfl (by kernel_rfl) (fun c l s h => hQp c l s h) rfl (fun s' K hK => ?_) rfl rfl (fun _ => hR) ?_
         ·refine hel298 s' rfl rfl Try.underlying156 tI105 ?_
          exact hK
         try dsimp only [putL, setL, evL, getL]
         refine HK_read 18 (v := .slice A299 u298.length c299) rfl (by kernel_rfl) (fun c l s h => hQp c l s h) rfl (fun s' hR' K hK => ?_) rfl rfl hR ?_
         ·refine o_load' rfl Try.underlying105 rfl ((hh298 (hH0.bs.mono.trans hR'.mono)) 0 _ rfl) ?_
          exact hK
         try dsimp only [putL, setL, evL, getL]
         refine HK_readP 19 (v := .int .i64 x267) rfl (by kernel_rfl) (fun c l s h => hQp c l s h) rfl (fun s' K hK => ?_) rfl rfl (fun _ => hR) ?_
         ·refine o_move ?_
          exact hK
         try dsimp only [putL, setL, evL, getL]
         replace H := headE H
         obtain ⟨u300, hu300, H⟩ := H
         obtain ⟨b300, o300, cs300, hr300, hh300, hel300⟩ := Rd.elb D299 hu300
         obtain ⟨A301, c301, rfl, D301⟩ := hr300
         refine HK_readP 20 (v := .pointer (some ⟨b300, o300, none⟩)) rfl (by kernel_rfl) (fun c l s h => hQp c l s h) rfl (fun s' K hK => ?_) rfl rfl (fun _ => hR) ?_
         ·refine hel300 s' rfl rfl Try.underlying105 tI24 ?_
          exact hK
         try dsimp only [putL, setL, evL, getL]
         refine HK_read 21 (v := .slice A301 u300.length c301) rfl (by kernel_rfl) (fun c l s h => hQp c l s h) rfl (fun s' hR' K hK => ?_) rfl rfl hR ?_
         ·refine o_load' rfl Try.underlying24 rfl ((hh300 (hH0.bs.mono.trans hR'.mono)) 0 _ rfl) ?_
          exact hK
         try dsimp only [putL, setL, evL, getL]
         refine HK_readP 22 (v := .int .i64 p6) rfl (by kernel_rfl) (fun c l s h => hQp c l s h) rfl (fun s' K hK => ?_) rfl rfl (fun _ => hR) ?_
         ·refine o_move ?_
          exact hK
         try dsimp only [putL, setL, evL, getL]
         replace H := headE H
         obtain ⟨u302, hu302, H⟩ := H
         obtain ⟨b302, o302, cs302, hr302, hh302, hel302⟩ := Rd.elb D301 hu302
         obtain rfl := hr302
         refine HK_readP 23 (v := .pointer (some ⟨b302, o302, none⟩)) rfl (by kernel_rfl) (fun c l s h => hQp c l s h) rfl (fun s' K hK => ?_) rfl rfl (fun _ => hR) ?_
         ·refine hel302 s' rfl rfl Try.underlying24 tI3 ?_
          exact hK
         try dsimp only [putL, setL, evL, getL]
         refine HK_read 24 (v := .int .i64 u302) rfl (by kernel_rfl) (fun c l s h => hQp c l s h) rfl (fun s' hR' K hK => ?_) rfl rfl hR ?_
         ·refine o_load' rfl Try.underlying3 rfl ((hh302 (hH0.bs.mono.trans hR'.mono)) 0 _ rfl) ?_
          exact hK
         try dsimp only [putL, setL, evL, getL]
         refine HK_readP 25 (v := .int .i64 (IntKind.i64.wrap (u296 * u302))) rfl (by kernel_rfl) (fun c l s h => hQp c l s h) rfl (fun s' K hK => ?_) rfl rfl (fun _ => hR) ?_
         ·refine o_bin rfl rfl rfl ?_
          exact hK
         try dsimp only [putL, setL, evL, getL]
         refine HK_readP 26 (v := .int .i64 (IntKind.i64.wrap (x266 + (IntKind.i64.wrap (u296 * u302))))) rfl (by kernel_rfl) (fun c l s h => hQp c l s h) rfl (fun s' K hK => ?_) rfl rfl (fun _ => hR) ?_
         ·refine o_bin rfl rfl rfl ?_
          exact hK
         try dsimp only [putL, setL, evL, getL]
         refine HK_readP 27 (v := .int .i64 (min (IntKind.i64.wrap (x266 + (IntKind.i64.wrap (u296 * u302)))) 1000000)) rfl (by kernel_rfl) (fun c l s h => hQp c l s h) rfl (fun s' K hK => ?_) rfl rfl (fun _ => hR) ?_
         ·refine o_min2 rfl rfl ?_
          exact hK
         try dsimp only [putL, setL, evL, getL]
         refine HK_more [28] (by kernel_rfl) rfl (fun _ => hR) ⟨⟨_, rfl, Or.inl ⟨rfl, ?_⟩⟩, trivial⟩
         skip
         refine o_assign ?_
         try dsimp only [putL, setL, evL, getL]
         refine HK_done (fun _ => hR) (by kernel_rfl) ?_
         refine hK290 _ _ ?_
         refine HT_region ?_
         refine HL_cons rfl ?_
         refine o_move ?_
         try dsimp only [putL, setL, evL, getL]
         refine HL_cons rfl ?_
         refine o_bin rfl rfl rfl ?_
         try dsimp only [putL, setL, evL, getL]
         refine HL_cons rfl ?_
         refine o_assign ?_
         try dsimp only [putL, setL, evL, getL]
         refine HL_nil ?_
         exact hK286 _ _ ⟨kf, Nat.lt_succ_self kf, min (IntKind.i64.wrap (x266 + (IntKind.i64.wrap (u296 * u302)))) 1000000, IntKind.i64.wrap (x267 + 1), H, rfl, hH⟩
        ·replace H := iteF hb289 H
         refine HT_false (congrArg Value.bool hb289) ?_
         refine HT_exit ?_
         exact hK195 _ _ ⟨x266, H, rfl, hH⟩
      ·rintro l' s303 ⟨x249, H, hl, hH⟩
       generalize getL l' 16 = j16, getL l' 76 = j76, getL l' 77 = j77, getL l' 78 = j78, getL l' 79 = j79, getL l' 80 = j80, getL l' 81 = j81, getL l' 82 = j82, getL l' 83 = j83, getL l' 84 = j84, getL l' 85 = j85, getL l' 86 = j86, getL l' 87 = j87, getL l' 88 = j88, getL l' 89 = j89, getL l' 90 = j90, getL l' 91 = j91, getL l' 92 = j92, getL l' 93 = j93, getL l' 94 = j94, getL l' 95 = j95, getL l' 96 = j96, getL l' 97 = j97, getL l' 98 = j98, getL l' 99 = j99, getL l' 100 = j100, getL l' 101 = j101, getL l' 102 = j102, getL l' 103 = j103, getL l' 104 = j104, getL l' 105 = j105, getL l' 106 = j106, getL l' 107 = j107, getL l' 108 = j108 at hl
       subst hl
       replace H := hG195 _ H
       try dsimp only at H
       refine hK193 _ _ ?_
       refine HT_seq_k ?_
       intro K304 hK304
       refine HT_region ?_
       refine HL_cons rfl ?_
       refine o_move ?_
       try dsimp only [putL, setL, evL, getL]
       refine HL_cons rfl ?_
       refine o_assign ?_
       try dsimp only [putL, setL, evL, getL]
       refine HL_nil ?_
       refine hK304 _ _ ?_
       refine HT_ret ?_
       replace H := escH (fun z hz => hG6 _ hz) H
       exact hQr _ _ [.int .i64 x249] ⟨rfl, trivial⟩ (retH (fun r => impl_countOf.post sb s F0 r _ _) (show some _ = some r from H) ⟨rfl, hH⟩)
     ·replace H := iteF hb192 H
      refine HT_false (congrArg Value.bool hb192) ?_
      refine HT_skip ?_
      exact hK6 _ _ ⟨H, rfl, hH.sel [] (by decide)⟩
 ·rintro l' s305 ⟨H, hl, hH⟩
  generalize getL l' 14 = j14, getL l' 16 = j16, getL l' 20 = j20, getL l' 21 = j21, getL l' 22 = j22, getL l' 23 = j23, getL l' 24 = j24, getL l' 25 = j25, getL l' 26 = j26, getL l' 27 = j27, getL l' 28 = j28, getL l' 29 = j29, getL l' 30 = j30, getL l' 31 = j31, getL l' 32 = j32, getL l' 33 = j33, getL l' 34 = j34, getL l' 35 = j35, getL l' 36 = j36, getL l' 37 = j37, getL l' 38 = j38, getL l' 39 = j39, getL l' 40 = j40, getL l' 41 = j41, getL l' 42 = j42, getL l' 43 = j43, getL l' 44 = j44, getL l' 45 = j45, getL l' 46 = j46, getL l' 47 = j47, getL l' 48 = j48, getL l' 49 = j49, getL l' 50 = j50, getL l' 51 = j51, getL l' 52 = j52, getL l' 53 = j53, getL l' 54 = j54, getL l' 55 = j55, getL l' 56 = j56, getL l' 57 = j57, getL l' 58 = j58, getL l' 59 = j59, getL l' 60 = j60, getL l' 61 = j61, getL l' 62 = j62, getL l' 63 = j63, getL l' 64 = j64, getL l' 65 = j65, getL l' 66 = j66, getL l' 67 = j67, getL l' 68 = j68, getL l' 69 = j69, getL l' 70 = j70, getL l' 71 = j71, getL l' 72 = j72, getL l' 73 = j73, getL l' 74 = j74, getL l' 75 = j75, getL l' 76 = j76, getL l' 77 = j77, getL l' 78 = j78, getL l' 79 = j79, getL l' 80 = j80, getL l' 81 = j81, getL l' 82 = j82, getL l' 83 = j83, getL l' 84 = j84, getL l' 85 = j85, getL l' 86 = j86, getL l' 87 = j87, getL l' 88 = j88, getL l' 89 = j89, getL l' 90 = j90, getL l' 91 = j91, getL l' 92 = j92, getL l' 93 = j93, getL l' 94 = j94, getL l' 95 = j95, getL l' 96 = j96, getL l' 97 = j97, getL l' 98 = j98, getL l' 99 = j99, getL l' 100 = j100, getL l' 101 = j101, getL l' 102 = j102, getL l' 103 = j103, getL l' 104 = j104, getL l' 105 = j105, getL l' 106 = j106, getL l' 107 = j107, getL l' 108 = j108, getL l' 109 = j109 at hl
  subst hl
  replace H := hG6 _ H
  try dsimp only at H
  refine hK4 _ _ ?_
  refine HT_seq_k ?_
  intro K306 hK306
  refine HT_seq_k ?_
  intro K307 hK307
  refine HT_region ?_
  refine HL_cons rfl ?_
  refine o_move ?_
  try dsimp only [putL, setL, evL, getL]
  refine HL_cons rfl ?_
  refine o_move ?_
  try dsimp only [putL, setL, evL, getL]
  refine HL_cons rfl ?_
  refine o_bin rfl rfl rfl ?_
  try dsimp only [putL, setL, evL, getL]
  refine HL_nil ?_
  refine hK307 _ _ ?_
  rcases Bool.eq_false_or_eq_true (p5 == p6) with hb308 | hb308
  ·replace H := iteT hb308 H
   refine HT_true (congrArg Value.bool hb308) ?_
   refine HT_seq_k ?_
   intro K309 hK309
   refine HT_region ?_
   refine HL_cons rfl ?_
   refine o_assign ?_
   try dsimp only [putL, setL, evL, getL]
   refine HL_nil ?_
   refine hK309 _ _ ?_
   refine HT_ret ?_
   exact hQr _ _ [.int .i64 1] ⟨rfl, trivial⟩ (retH (fun r => impl_countOf.post sb s F0 r _ _) (show some _ = some r from H) ⟨rfl, hH⟩)
  ·replace H := iteF hb308 H
   refine HT_false (congrArg Value.bool hb308) ?_
   refine HT_skip ?_
   refine hK306 _ _ ?_
   refine HT_seq_k ?_
   intro K310 hK310
   refine HT_seq_k ?_
   intro K311 hK311
   refine HT_region ?_
   refine HL_cons rfl ?_
   refine o_move ?_
   try dsimp only [putL, setL, evL, getL]
   refine HL_cons rfl ?_
   refine o_bin rfl rfl rfl ?_
   try dsimp only [putL, setL, evL, getL]
   refine HL_cons rfl ?_
   refine o_assign ?_
   try dsimp only [putL, setL, evL, getL]
   refine HL_nil ?_
   refine hK311 _ _ ?_
   refine joinH H fun G312 hG312 H => ?_
   refine HT_toK (fun l' s' => ∃ (x363 : Int), G312 x363 = some r ∧ l' = [.slice A0p p0.length c0p, .slice A1p p1.length c1p, .int .i64 p2, .agg #[.int .i64 p3_0, .slice A3_1p p3_1.length c3_1p], .slice A4p p4.length c4p, .int .i64 p5, .int .i64 p6, undef, undef, undef, .pointer (some ⟨b2, 0, none⟩), undef, undef, undef, j14, .int .i64 x363, j16, getL l' 17, .pointer (some ⟨b2, 0 + 0, none⟩), .int .i64 p3_0, j20, j21, j22, j23, j24, j25, j26, j27, j28, j29, j30, j31, j32, j33, j34, j35, j36, j37, j38, j39, j40, j41, j42, j43, j44, j45, j46, j47, j48, j49, j50, j51, j52, j53, j54, j55, j56, j57, j58, j59, j60, j61, j62, j63, j64, j65, j66, j67, j68, j69, j70, j71, j72, j73, j74, j75, j76, j77, j78, j79, j80, j81, j82, j83, j84, j85, j86, j87, j88, j89, j90, j91, j92, j93, j94, j95, j96, j97, j98, j99, j100, j101, j102, j103, j104, j105, j106, j107, j108, j109, .int .i64 p5, .int .i64 p6, .bool (p5 == p6), .int .i64 p5, .int .i64 (IntKind.i64.wrap (p5 + 1)), getL l' 115, getL l' 116, getL l' 117, getL l' 118, getL l' 119, getL l' 120, getL l' 121, getL l' 122, getL l' 123, getL l' 124, getL l' 125, getL l' 126, getL l' 127, getL l' 128, getL l' 129, getL l' 130, getL l' 131, getL l' 132, getL l' 133, getL l' 134, getL l' 135, getL l' 136, getL l' 137, getL l' 138, getL l' 139, getL l' 140, getL l' 141, getL l' 142, getL l' 143, getL l' 144, getL l' 145, undef] ∧ Hp sb s F0 s' []) ?_ ?_
   ·intro K312 hK312
    refine HT_block ?_
    refine HT_loopK (fun kf l' s' => ∃ (x379 : Int) (x380 : Int), (impl_countOf.l2 p0 p1 p2 p5 p6 kf x379 x380).bind G312 = some r ∧ l' = [.slice A0p p0.length c0p, .slice A1p p1.length c1p, .int .i64 p2, .agg #[.int .i64 p3_0, .slice A3_1p p3_1.length c3_1p], .slice A4p p4.length c4p, .int .i64 p5, .int .i64 p6, undef, undef, undef, .pointer (some ⟨b2, 0, none⟩), undef, undef, undef, j14, .int .i64 x379, j16, .int .i64 x380, .pointer (some ⟨b2, 0 + 0, none⟩), .int .i64 p3_0, j20, j21, j22, j23, j24, j25, j26, j27, j28, j29, j30, j31, j32, j33, j34, j35, j36, j37, j38, j39, j40, j41, j42, j43, j44, j45, j46, j47, j48, j49, j50, j51, j52, j53, j54, j55, j56, j57, j58, j59, j60, j61, j62, j63, j64, j65, j66, j67, j68, j69, j70, j71, j72, j73, j74, j75, j76, j77, j78, j79, j80, j81, j82, j83, j84, j85, j86, j87, j88, j89, j90, j91, j92, j93, j94, j95, j96, j97, j98, j99, j100, j101, j102, j103, j104, j105, j106, j107, j108, j109, .int .i64 p5, .int .i64 p6, .bool (p5 == p6), .int .i64 p5, .int .i64 (IntKind.i64.wrap (p5 + 1)), getL l' 115, getL l' 116, getL l' 117, getL l' 118, getL l' 119, getL l' 120, getL l' 121, getL l' 122, getL l' 123, getL l' 124, getL l' 125, getL l' 126, getL l' 127, getL l' 128, getL l' 129, getL l' 130, getL l' 131, getL l' 132, getL l' 133, getL l' 134, getL l' 135, getL l' 136, getL l' 137, getL l' 138, getL l' 139, getL l' 140, getL l' 141, getL l' 142, getL l' 143, getL l' 144, getL l' 145, undef] ∧ Hp sb s F0 s' []) (((p6) - (IntKind.i64.wrap (p5 + 1))).toNat + 2) ⟨0, IntKind.i64.wrap (p5 + 1), H, rfl, hH⟩ ?_
    rintro kf l' s398 ⟨x379, x380, H, hl, hH⟩ K398 hK398
    generalize getL l' 115 = j115, getL l' 116 = j116, getL l' 117 = j117, getL l' 118 = j118, getL l' 119 = j119, getL l' 120 = j120, getL l' 121 = j121, getL l' 122 = j122, getL l' 123 = j123, getL l' 124 = j124, getL l' 125 = j125, getL l' 126 = j126, getL l' 127 = j127, getL l' 128 = j128, getL l' 129 = j129, getL l' 130 = j130, getL l' 131 = j131, getL l' 132 = j132, getL l' 133 = j133, getL l' 134 = j134, getL l' 135 = j135, getL l' 136 = j136, getL l' 137 = j137, getL l' 138 = j138, getL l' 139 = j139, getL l' 140 = j140, getL l' 141 = j141, getL l' 142 = j142, getL l' 143 = j143, getL l' 144 = j144, getL l' 145 = j145 at hl
    subst hl
    cases kf with
    | zero => simp [impl_countOf.l2] at H
    | succ kf =>
     rw [impl_countOf.l2] at H
     refine HT_seq_k ?_
     intro K399 hK399
     refine HT_seq_k ?_
     intro K400 hK400
     refine HT_region ?_
     refine HL_cons rfl ?_
     refine o_move ?_
     try dsimp only [putL, setL, evL, getL]
     refine HL_cons rfl ?_
     refine o_move ?_
     try dsimp only [putL, setL, evL, getL]
     refine HL_cons rfl ?_
     refine o_bin rfl rfl rfl ?_
     try dsimp only [putL, setL, evL, getL]
     refine HL_nil ?_
     refine hK400 _ _ ?_
     rcases Bool.eq_false_or_eq_true (decide (x380 ≤ p6)) with hb401 | hb401
     ·replace H := iteT hb401 H
      refine HT_true (congrArg Value.bool hb401) ?_
      refine HT_skip ?_
      refine hK399 _ _ ?_
      refine HT_seq_k ?_
      intro K402 hK402
      refine HT_block ?_
      refine HX_draw hMix ?_
      refine HX_lim (R := fun _ => True) (k := 0) (fun s' => Gro s398 s') 28 ?_
      have hR := Gro.refl s398
      have hH0 := hH
      refine HK_readP 0 (v := .int .i64 x379) rfl (by kernel_rfl) (fun c l s h => hQp c l s h) rfl (fun s' K hK => ?_) rfl rfl (fun _ => hR) ?_
      ·refine o_move ?_
       exact hK
      try dsimp only [putL, setL, evL, getL]
      refine HK_readP 1 (v := .slice A0p p0.length c0p) rfl (by kernel_rfl) (fun c l s h => hQp c l s h) rfl (fun s' K hK => ?_) rfl rfl (fun _ => hR) ?_
      ·refine o_move ?_
       exact hK
      try dsimp only [putL, setL, evL, getL]
      refine HK_readP 2 (v := .slice A1p p1.length c1p) rfl (by kernel_rfl) (fun c l s h => hQp c l s h) rfl (fun s' K hK => ?_) rfl rfl (fun _ => hR) ?_
      ·refine o_move ?_
       exact hK
      try dsimp only [putL, setL, evL, getL]
      replace H := headE H
      obtain ⟨u403, hu403, H⟩ := H
      obtain ⟨b403, o403, cs403, hr403, hh403, hel403⟩ := Rd.elb HRp1 hu403
      obtain rfl := hr403
      refine HK_readP 3 (v := .pointer (some ⟨b403, o403, none⟩)) rfl (by kernel_rfl) (fun c l s h => hQp c l s h) rfl (fun s' K hK => ?_) rfl rfl (fun _ => hR) ?_
      ·refine hel403 s' rfl rfl Try.underlying24 tI3 ?_
       exact hK
      try dsimp only [putL, setL, evL, getL]
      refine HK_read 4 (v := .int .i64 u403) rfl (by kernel_rfl) (fun c l s h => hQp c l s h) rfl (fun s' hR' K hK => ?_) rfl rfl hR ?_
      ·refine o_load' rfl Try.underlying3 rfl ((hh403 (hH0.bs.mono.trans hR'.mono)) 0 _ rfl) ?_
       exact hK
      try dsimp only [putL, setL, evL, getL]
      replace H := headE H
      obtain ⟨u404, hu404, H⟩ := H
      obtain ⟨b404, o404, cs404, hr404, hh404, hel404⟩ := Rd.elb HRp0 hu404
      obtain ⟨A405, c405, rfl, D405⟩ := hr404
      refine HK_readP 5 (v := .pointer (some ⟨b404, o404, none⟩)) rfl (by kernel_rfl) (fun c l s h => hQp c l s h) rfl (fun s' K hK => ?_) rfl rfl (fun _ => hR) ?_
      ·refine hel404 s' rfl rfl Try.underlying156 tI105 ?_
       exact hK
      try dsimp only [putL, setL, evL, getL]
      refine HK_read 6 (v := .slice A405 u404.length c405) rfl (by kernel_rfl) (fun c l s h => hQp c l s h) rfl (fun s' hR' K hK => ?_) rfl rfl hR ?_
      ·refine o_load' rfl Try.underlying105 rfl ((hh404 (hH0.bs.mono.trans hR'.mono)) 0 _ rfl) ?_
       exact hK
      try dsimp only [putL, setL, evL, getL]
      refine HK_readP 7 (v := .int .i64 p5) rfl (by kernel_rfl) (fun c l s h => hQp c l s h) rfl (fun s' K hK => ?_) rfl rfl (fun _ => hR) ?_
      ·refine o_move ?_
       exact hK
      try dsimp only [putL, setL, evL, getL]
      replace H := headE H
      obtain ⟨u406, hu406, H⟩ := H
      obtain ⟨b406, o406, cs406, hr406, hh406, hel406⟩ := Rd.elb D405 hu406
      obtain ⟨A407, c407, rfl, D407⟩ := hr406
      refine HK_readP 8 (v := .pointer (some ⟨b406, o406, none⟩)) rfl (by kernel_rfl) (fun c l s h => hQp c l s h) rfl (fun s' K hK => ?_) rfl rfl (fun _ => hR) ?_
      ·refine hel406 s' rfl rfl Try.underlying105 tI24 ?_
       exact hK
      try dsimp only [putL, setL, evL, getL]
      refine HK_read 9 (v := .slice A407 u406.length c407) rfl (by kernel_rfl) (fun c l s h => hQp c l s h) rfl (fun s' hR' K hK => ?_) rfl rfl hR ?_
      ·refine o_load' rfl Try.underlying24 rfl ((hh406 (hH0.bs.mono.trans hR'.mono)) 0 _ rfl) ?_
       exact hK
      try dsimp only [putL, setL, evL, getL]
      refine HK_readP 10 (v := .int .i64 x380) rfl (by kernel_rfl) (fun c l s h => hQp c l s h) rfl (fun s' K hK => ?_) rfl rfl (fun _ => hR) ?_
      ·refine o_move ?_
       exact hK
      try dsimp only [putL, setL, evL, getL]
      replace H := headE H
      obtain ⟨u408, hu408, H⟩ := H
      obtain ⟨b408, o408, cs408, hr408, hh408, hel408⟩ := Rd.elb D407 hu408
      obtain rfl := hr408
      refine HK_readP 11 (v := .pointer (some ⟨b408, o408, none⟩)) rfl (by kernel_rfl) (fun c l s h => hQp c l s h) rfl (fun s' K hK => ?_) rfl rfl (fun _ => hR) ?_
      ·refine hel408 s' rfl rfl Try.underlying24 tI3 ?_
       exact hK
      try dsimp only [putL, setL, evL, getL]
      refine HK_read 12 (v := .int .i64 u408) rfl (by kernel_rfl) (fun c l s h => hQp c l s h) rfl (fun s' hR' K hK => ?_) rfl rfl hR ?_
      ·refine o_load' rfl Try.underlying3 rfl ((hh408 (hH0.bs.mono.trans hR'.mono)) 0 _ rfl) ?_
       exact hK
      try dsimp only [putL, setL, evL, getL]
      refine HK_readP 13 (v := .slice A0p p0.length c0p) rfl (by kernel_rfl) (fun c l s h => hQp c l s h) rfl (fun s' K hK => ?_) rfl rfl (fun _ => hR) ?_
      ·refine o_move ?_
       exact hK
      try dsimp only [putL, setL, evL, getL]
      refine HK_readP 14 (v := .int .i64 p2) rfl (by kernel_rfl) (fun c l s h => hQp c l s h) rfl (fun s' K hK => ?_) rfl rfl (fun _ => hR) ?_
      ·refine o_move ?_
       exact hK
      try dsimp only [putL, setL, evL, getL]
      replace H := headE H
      obtain ⟨u409, hu409, H⟩ := H
      obtain ⟨b409, o409, cs409, hr409, hh409, hel409⟩ := Rd.elb HRp0 hu409
      obtain ⟨A410, c410, rfl, D410⟩ := hr409
      refine HK_readP 15 (v := .pointer (some ⟨b409, o409, none⟩)) rfl (by kernel_rfl) (fun c l s h => hQp c l s h) rfl (fun s' K hK => ?_) rfl rfl (fun _ => hR) ?_
      ·refine hel409 s' rfl rfl Try.underlying156 tI105 ?_
       exact hK
      try dsimp only [putL, setL, evL, getL]
      refine HK_read 16 (v := .slice A410 u409.length c410) rfl (by kernel_rfl) (fun c l s h => hQp c l s h) rfl (fun s' hR' K hK => ?_) rfl rfl hR ?_
      ·refine o_load' rfl Try.underlying105 rfl ((hh409 (hH0.bs.mono.trans hR'.mono)) 0 _ rfl) ?_
       exact hK
      try dsimp only [putL, setL, evL, getL]
      refine HK_readP 17 (v := .int .i64 x380) rfl (by kernel_rfl) (fun c l s h => hQp c l s h) rfl (fun s' K hK => ?_) rfl rfl (fun _ => hR) ?_
      ·refine o_move ?_
       exact hK
      try dsimp only [putL, setL, evL, getL]
      replace H := headE H
      obtain ⟨u411, hu411, H⟩ := H
      obtain ⟨b411, o411, cs411, hr411, hh411, hel411⟩ := Rd.elb D410 hu411
      obtain ⟨A412, c412, rfl, D412⟩ := hr411
      refine HK_readP 18 (v := .pointer (some ⟨b411, o411, none⟩)) rfl (by kernel_rfl) (fun c l s h => hQp c l s h) rfl (fun s' K hK => ?_) rfl rfl (fun _ => hR) ?_
      ·refine hel411 s' rfl rfl Try.underlying105 tI24 ?_
       exact hK
      try dsimp only [putL, setL, evL, getL]
      refine HK_read 19 (v := .slice A412 u411.length c412) rfl (by kernel_rfl) (fun c l s h => hQp c l s h) rfl (fun s' hR' K hK => ?_) rfl rfl hR ?_
      ·refine o_load' rfl Try.underlying24 rfl ((hh411 (hH0.bs.mono.trans hR'.mono)) 0 _ rfl) ?_
       exact hK
      try dsimp only [putL, setL, evL, getL]
      refine HK_readP 20 (v := .int .i64 p6) rfl (by kernel_rfl) (fun c l s h => hQp c l s h) rfl (fun s' K hK => ?_) rfl rfl (fun _ => hR) ?_
      ·refine o_move ?_
       exact hK
      try dsimp only [putL, setL, evL, getL]
      replace H := headE H
      obtain ⟨u413, hu413, H⟩ := H
      obtain ⟨b413, o413, cs413, hr413, hh413, hel413⟩ := Rd.elb D412 hu413
      obtain rfl := hr413
      refine HK_readP 21 (v := .pointer (some ⟨b413, o413, none⟩)) rfl (by kernel_rfl) (fun c l s h => hQp c l s h) rfl (fun s' K hK => ?_) rfl rfl (fun _ => hR) ?_
      ·refine hel413 s' rfl rfl Try.underlying24 tI3 ?_
       exact hK
      try dsimp only [putL, setL, evL, getL]
      refine HK_read 22 (v := .int .i64 u413) rfl (by kernel_rfl) (fun c l s h => hQp c l s h) rfl (fun s' hR' K hK => ?_) rfl rfl hR ?_
      ·refine o_load' rfl Try.underlying3 rfl ((hh413 (hH0.bs.mono.trans hR'.mono)) 0 _ rfl) ?_
       exact hK
      try dsimp only [putL, setL, evL, getL]
      refine HK_readP 23 (v := .int .i64 (IntKind.i64.wrap (u408 * u413))) rfl (by kernel_rfl) (fun c l s h => hQp c l s h) rfl (fun s' K hK => ?_) rfl rfl (fun _ => hR) ?_
      ·refine o_bin rfl rfl rfl ?_
       exact hK
      try dsimp only [putL, setL, evL, getL]
      refine HK_readP 24 (v := .int .i64 (IntKind.i64.wrap (x379 + (IntKind.i64.wrap (u408 * u413))))) rfl (by kernel_rfl) (fun c l s h => hQp c l s h) rfl (fun s' K hK => ?_) rfl rfl (fun _ => hR) ?_
      ·refine o_bin rfl rfl rfl ?_
       exact hK
      try dsimp only [putL, setL, evL, getL]
      refine HK_readP 25 (v := .int .i64 (min (IntKind.i64.wrap (x379 + (IntKind.i64.wrap (u408 * u413)))) 1000000)) rfl (by kernel_rfl) (fun c l s h => hQp c l s h) rfl (fun s' K hK => ?_) rfl rfl (fun _ => hR) ?_
      ·refine o_min2 rfl rfl ?_
       exact hK
      try dsimp only [putL, setL, evL, getL]
      refine HK_more [26] (by kernel_rfl) rfl (fun _ => hR) ⟨⟨_, rfl, Or.inl ⟨rfl, ?_⟩⟩, trivial⟩
      skip
      refine o_assign ?_
      try dsimp only [putL, setL, evL, getL]
      refine HK_done (fun _ => hR) (by kernel_rfl) ?_
      refine hK402 _ _ ?_
      refine HT_region ?_
      refine HL_cons rfl ?_
      refine o_move ?_
      try dsimp only [putL, setL, evL, getL]
      refine HL_cons rfl ?_
      refine o_bin rfl rfl rfl ?_
      try dsimp only [putL, setL, evL, getL]
      refine HL_cons rfl ?_
      refine o_assign ?_
      try dsimp only [putL, setL, evL, getL]
      refine HL_nil ?_
      exact hK398 _ _ ⟨kf, Nat.lt_succ_self kf, min (IntKind.i64.wrap (x379 + (IntKind.i64.wrap (u408 * u413)))) 1000000, IntKind.i64.wrap (x380 + 1), H, rfl, hH⟩
     ·replace H := iteF hb401 H
      refine HT_false (congrArg Value.bool hb401) ?_
      refine HT_exit ?_
      exact hK312 _ _ ⟨x379, H, rfl, hH⟩
   ·rintro l' s414 ⟨x363, H, hl, hH⟩
    generalize getL l' 17 = j17, getL l' 115 = j115, getL l' 116 = j116, getL l' 117 = j117, getL l' 118 = j118, getL l' 119 = j119, getL l' 120 = j120, getL l' 121 = j121, getL l' 122 = j122, getL l' 123 = j123, getL l' 124 = j124, getL l' 125 = j125, getL l' 126 = j126, getL l' 127 = j127, getL l' 128 = j128, getL l' 129 = j129, getL l' 130 = j130, getL l' 131 = j131, getL l' 132 = j132, getL l' 133 = j133, getL l' 134 = j134, getL l' 135 = j135, getL l' 136 = j136, getL l' 137 = j137, getL l' 138 = j138, getL l' 139 = j139, getL l' 140 = j140, getL l' 141 = j141, getL l' 142 = j142, getL l' 143 = j143, getL l' 144 = j144, getL l' 145 = j145 at hl
    subst hl
    replace H := hG312 _ H
    try dsimp only at H
    refine hK310 _ _ ?_
    refine HT_seq_k ?_
    intro K415 hK415
    refine HT_region ?_
    refine HL_cons rfl ?_
    refine o_move ?_
    try dsimp only [putL, setL, evL, getL]
    refine HL_cons rfl ?_
    refine o_assign ?_
    try dsimp only [putL, setL, evL, getL]
    refine HL_nil ?_
    refine hK415 _ _ ?_
    refine HT_ret ?_
    exact hQr _ _ [.int .i64 x363] ⟨rfl, trivial⟩ (retH (fun r => impl_countOf.post sb s F0 r _ _) (show some _ = some r from H) ⟨rfl, hH⟩)
end Go.Proofs.Ytkieinlcpkpcjaa
